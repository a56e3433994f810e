/- The code of the functions, checked against the loaded program; printed by a program (gen2.py). -/
import Derived.Test.YtipmgemnjcjobaaDoorProg
import Derived.Test.YtipmgemnjcjobaaDoorAw25
set_option linter.unusedVariables false
set_option maxRecDepth 100000
namespace Go.Proofs.YtipmgemnjcjobaaDoor
open Aw

/-! The numbers of the functions. -/
def i_laws_FnExactProgramText : FuncId := 4
def i_laws_FnExactCheckerText : FuncId := 5
def i_laws_szProgram : FuncId := 10
def i_spec_ProgramText : FuncId := 11
def i_laws_toProgram : FuncId := 12
def i_impl_ProgramText : FuncId := 13
def i_laws_eqProgram : FuncId := 14
def i_laws_szChecker : FuncId := 15
def i_spec_CheckerText : FuncId := 16
def i_laws_toChecker : FuncId := 17
def i_impl_CheckerText : FuncId := 18
def i_laws_eqChecker : FuncId := 19
def i_impl_decimal : FuncId := 24
def i_laws_szModuleS : FuncId := 25
def i_spec_l07Ok : FuncId := 26
def i_spec_l07Text : FuncId := 27
def i_laws_toModuleS : FuncId := 28
def i_impl_ValidProgram : FuncId := 29
def i_impl_words : FuncId := 30
def i_impl_Link_isCallLink : FuncId := 31
def i_laws_eqModuleS : FuncId := 32
def i_laws_szBoolS : FuncId := 33
def i_laws_szPushSS : FuncId := 34
def i_laws_szInt64SSS : FuncId := 35
def i_laws_szInt64SS : FuncId := 36
def i_spec_l02Ok : FuncId := 37
def i_spec_l02Row : FuncId := 38
def i_laws_toBoolS : FuncId := 39
def i_laws_toPushSS : FuncId := 40
def i_laws_toInt64SSS : FuncId := 41
def i_laws_toInt64SS : FuncId := 42
def i_impl_ValidChecker : FuncId := 43
def i_impl_size_bool : FuncId := 44
def i_impl_yes : FuncId := 45
def i_slices_Concat_L_int64 : FuncId := 46
def i_laws_eqBoolS : FuncId := 47
def i_laws_eqPushSS : FuncId := 48
def i_laws_eqInt64SSS : FuncId := 49
def i_laws_eqInt64SS : FuncId := 50
def i_spec_l00In : FuncId := 51
def i_spec_l06Brackets : FuncId := 54
def i_spec_Decimal : FuncId := 56
def i_impl_within : FuncId := 57
def i_impl_isBrackets : FuncId := 60
def i_strconv_FormatInt : FuncId := 61
def i_laws_szModule : FuncId := 62
def i_spec_l07Inner : FuncId := 63
def i_laws_toModule : FuncId := 64
def i_impl_size_impl_Module : FuncId := 65
def i_slices_ContainsFunc_L_impl_Module : FuncId := 66
def i_impl_ValidProgram_1 : FuncId := 67
def i_slices_ContainsFunc_L_impl_Link : FuncId := 68
def i_impl_ValidProgram_1_1 : FuncId := 69
def i_impl_isLetter : FuncId := 70
def i_P_strings_Builder_WriteString : FuncId := 71
def i_P_strings_Builder_String : FuncId := 72
def i_laws_eqModule : FuncId := 73
def i_laws_szPushS : FuncId := 74
def i_laws_szInt64S : FuncId := 75
def i_spec_l02List : FuncId := 76
def i_laws_toPushS : FuncId := 77
def i_laws_toInt64S : FuncId := 78
def i_impl_Checker_isState : FuncId := 79
def i_impl_size_L_impl_Push : FuncId := 80
def i_impl_size_L_L_int64 : FuncId := 81
def i_impl_size_L_int64 : FuncId := 82
def i_impl_ValidChecker_1 : FuncId := 83
def i_impl_size_int64 : FuncId := 84
def i_slices_ContainsFunc_L_int64 : FuncId := 85
def i_impl_ValidChecker_1_1 : FuncId := 86
def i_impl_Checker_isMark : FuncId := 87
def i_slices_Grow_L_int64 : FuncId := 88
def i_laws_eqPushS : FuncId := 89
def i_laws_eqInt64S : FuncId := 90
def i_spec_l01Call : FuncId := 93
def i_spec_l01Return : FuncId := 94
def i_impl_isCall : FuncId := 97
def i_impl_isReturn : FuncId := 98
def i_internal_strconv_FormatInt : FuncId := 99
def i_laws_szLinkS : FuncId := 100
def i_laws_toLinkS : FuncId := 101
def i_slices_IndexFunc_L_impl_Module : FuncId := 102
def i_slices_IndexFunc_L_impl_Link : FuncId := 103
def i_P_strings_Builder_copyCheck : FuncId := 104
def i_laws_eqLinkS : FuncId := 105
def i_laws_toPush : FuncId := 106
def i_slices_IndexFunc_L_int64 : FuncId := 107
def i_laws_eqPush : FuncId := 108
def i_internal_strconv_small : FuncId := 111
def i_internal_strconv_numDigits : FuncId := 112
def i_internal_strconv_formatBase10 : FuncId := 113
def i_internal_strconv_formatBits : FuncId := 114
def i_laws_szLink : FuncId := 115
def i_laws_toLink : FuncId := 116
def i_internal_abi_NoEscape : FuncId := 117
def i_laws_eqLink : FuncId := 118

/-- The checked code of laws szBoolS. -/
def ac_laws_szBoolS : AC := (.seq (.post (.reg [⟨(some 4), .op (.mv (.const (Value.int .i64 0))), none⟩]) (.kill [4]))
  (.seq (.post (.reg [⟨(some 5), .op (.mv (.tmp 1)), none⟩,
    ⟨(some 6), .op (.mv (.tmp 0)), none⟩,
    ⟨(some 7), .op (.len false (.tmp 6)), none⟩,
    ⟨(some 8), .op (.bin .sub (.tmp 5) (.tmp 7)), none⟩,
    ⟨(some 1), .op (.mv (.tmp 8)), none⟩]) (.kill [0, 5, 6, 7, 8]))
  (.seq (.seq (.post (.reg [⟨(some 9), .op (.mv (.tmp 1)), none⟩,
    ⟨(some 10), .op (.bin .lss (.tmp 9) (.const (Value.int .i64 0))), none⟩]) (.kill [9]))
  (.cond (.tmp 10) (.ghost (.kill [1, 10]) (.seq (.reg [⟨(some 4), .op (.mv (.const (Value.int .i64 (-1)))), none⟩])
  .ret))
  (.ghost (.kill [10]) .skip)))
  (.seq (.post (.reg [⟨(some 11), .op (.mv (.tmp 1)), none⟩,
    ⟨(some 4), .op (.mv (.tmp 11)), none⟩]) (.kill [1, 11]))
  .ret))))
theorem cf_laws_szBoolS : chkFn Tryd.prog i_laws_szBoolS ac_laws_szBoolS [.tmp 4] 12 = true := by decide +kernel
def fa_laws_szBoolS : FnA := ⟨ac_laws_szBoolS, [.tmp 4], 12, false, true, [], .any, none⟩

/-- The checked code of laws szPushS. -/
def ac_laws_szPushS : AC := (.seq (.post (.reg [⟨(some 4), .op (.mv (.const (Value.int .i64 0))), none⟩]) (.kill [4]))
  (.seq (.post (.reg [⟨(some 5), .op (.mv (.tmp 1)), none⟩,
    ⟨(some 6), .op (.mv (.tmp 0)), none⟩,
    ⟨(some 7), .op (.len false (.tmp 6)), none⟩,
    ⟨(some 8), .op (.bin .sub (.tmp 5) (.tmp 7)), none⟩,
    ⟨(some 1), .op (.mv (.tmp 8)), none⟩]) (.kill [0, 5, 6, 7, 8]))
  (.seq (.seq (.post (.reg [⟨(some 9), .op (.mv (.tmp 1)), none⟩,
    ⟨(some 10), .op (.bin .lss (.tmp 9) (.const (Value.int .i64 0))), none⟩]) (.kill [9]))
  (.cond (.tmp 10) (.ghost (.kill [1, 10]) (.seq (.reg [⟨(some 4), .op (.mv (.const (Value.int .i64 (-1)))), none⟩])
  .ret))
  (.ghost (.kill [10]) .skip)))
  (.seq (.post (.reg [⟨(some 11), .op (.mv (.tmp 1)), none⟩,
    ⟨(some 4), .op (.mv (.tmp 11)), none⟩]) (.kill [1, 11]))
  .ret))))
theorem cf_laws_szPushS : chkFn Tryd.prog i_laws_szPushS ac_laws_szPushS [.tmp 4] 12 = true := by decide +kernel
def fa_laws_szPushS : FnA := ⟨ac_laws_szPushS, [.tmp 4], 12, false, true, [], .any, none⟩

/-- The checked code of laws szPushSS. -/
def lb_laws_szPushSS_0 : AC := (.seq (.seq (.post (.reg [⟨(some 12), .op (.mv (.tmp 5)), none⟩,
    ⟨(some 13), .op (.mv (.tmp 0)), none⟩,
    ⟨(some 14), .op (.len false (.tmp 13)), none⟩,
    ⟨(some 15), .op (.bin .lss (.tmp 12) (.tmp 14)), none⟩]) (.kill [12, 13, 14]))
  (.cond (.tmp 15) (.ghost (.kill [15]) .skip)
  (.ghost (.kill [0, 5, 15]) (.exit 0))))
  (.seq (.block 1 (.seq (.post (.reg [⟨(some 18), .op (.mv (.tmp 0)), none⟩,
    ⟨(some 19), .op (.mv (.tmp 5)), none⟩,
    ⟨(some 20), .op (.iaddrS (.tmp 18) (.tmp 19) 1), none⟩,
    ⟨(some 21), .op (.load 1 false (.tmp 20)), none⟩,
    ⟨(some 22), .op (.mv (.tmp 1)), none⟩,
    ⟨(some 23), .call (.func i_laws_szPushS) [(.tmp 21), (.tmp 22)], none⟩,
    ⟨(some 1), .op (.mv (.tmp 23)), none⟩]) (.kill [18, 19, 20, 21, 22, 23]))
  (.seq (.post (.reg [⟨(some 24), .op (.mv (.tmp 1)), none⟩,
    ⟨(some 25), .op (.bin .lss (.tmp 24) (.const (Value.int .i64 0))), none⟩]) (.kill [24]))
  (.cond (.tmp 25) (.ghost (.kill [0, 1, 5, 25]) (.seq (.reg [⟨(some 4), .op (.mv (.const (Value.int .i64 (-1)))), none⟩])
  .ret))
  (.ghost (.kill [25]) .skip)))))
  (.post (.reg [⟨(some 16), .op (.mv (.tmp 5)), none⟩,
    ⟨(some 17), .op (.bin .add (.tmp 16) (.const (Value.int .i64 1))), none⟩,
    ⟨(some 5), .op (.mv (.tmp 17)), none⟩]) (.kill [16, 17]))))
def lo_laws_szPushSS_0 : AC := (.loop lb_laws_szPushSS_0)
def ac_laws_szPushSS : AC := (.seq (.post (.reg [⟨(some 4), .op (.mv (.const (Value.int .i64 0))), none⟩]) (.kill [4]))
  (.seq (.post (.reg [⟨(some 6), .op (.mv (.tmp 1)), none⟩,
    ⟨(some 7), .op (.mv (.tmp 0)), none⟩,
    ⟨(some 8), .op (.len false (.tmp 7)), none⟩,
    ⟨(some 9), .op (.bin .sub (.tmp 6) (.tmp 8)), none⟩,
    ⟨(some 1), .op (.mv (.tmp 9)), none⟩]) (.kill [6, 7, 8, 9]))
  (.seq (.seq (.post (.reg [⟨(some 10), .op (.mv (.tmp 1)), none⟩,
    ⟨(some 11), .op (.bin .lss (.tmp 10) (.const (Value.int .i64 0))), none⟩]) (.kill [10]))
  (.cond (.tmp 11) (.ghost (.kill [0, 1, 11]) (.seq (.reg [⟨(some 4), .op (.mv (.const (Value.int .i64 (-1)))), none⟩])
  .ret))
  (.ghost (.kill [11]) .skip)))
  (.seq (.seq (.reg [⟨(some 5), .op (.mv (.const (Value.int .i64 0))), none⟩])
  (.block 0 lo_laws_szPushSS_0))
  (.ghost (.kill [0, 5]) (.seq (.post (.reg [⟨(some 26), .op (.mv (.tmp 1)), none⟩,
    ⟨(some 4), .op (.mv (.tmp 26)), none⟩]) (.kill [1, 26]))
  .ret))))))
theorem cf_laws_szPushSS : chkFn Tryd.prog i_laws_szPushSS ac_laws_szPushSS [.tmp 4] 27 = true := by decide +kernel
def fa_laws_szPushSS : FnA := ⟨ac_laws_szPushSS, [.tmp 4], 27, false, true, [], .any, none⟩

/-- The checked code of laws szInt64S. -/
def ac_laws_szInt64S : AC := (.seq (.post (.reg [⟨(some 4), .op (.mv (.const (Value.int .i64 0))), none⟩]) (.kill [4]))
  (.seq (.post (.reg [⟨(some 5), .op (.mv (.tmp 1)), none⟩,
    ⟨(some 6), .op (.mv (.tmp 0)), none⟩,
    ⟨(some 7), .op (.len false (.tmp 6)), none⟩,
    ⟨(some 8), .op (.bin .sub (.tmp 5) (.tmp 7)), none⟩,
    ⟨(some 1), .op (.mv (.tmp 8)), none⟩]) (.kill [0, 5, 6, 7, 8]))
  (.seq (.seq (.post (.reg [⟨(some 9), .op (.mv (.tmp 1)), none⟩,
    ⟨(some 10), .op (.bin .lss (.tmp 9) (.const (Value.int .i64 0))), none⟩]) (.kill [9]))
  (.cond (.tmp 10) (.ghost (.kill [1, 10]) (.seq (.reg [⟨(some 4), .op (.mv (.const (Value.int .i64 (-1)))), none⟩])
  .ret))
  (.ghost (.kill [10]) .skip)))
  (.seq (.post (.reg [⟨(some 11), .op (.mv (.tmp 1)), none⟩,
    ⟨(some 4), .op (.mv (.tmp 11)), none⟩]) (.kill [1, 11]))
  .ret))))
theorem cf_laws_szInt64S : chkFn Tryd.prog i_laws_szInt64S ac_laws_szInt64S [.tmp 4] 12 = true := by decide +kernel
def fa_laws_szInt64S : FnA := ⟨ac_laws_szInt64S, [.tmp 4], 12, false, true, [], .any, none⟩

/-- The checked code of laws szInt64SS. -/
def lb_laws_szInt64SS_0 : AC := (.seq (.seq (.post (.reg [⟨(some 12), .op (.mv (.tmp 5)), none⟩,
    ⟨(some 13), .op (.mv (.tmp 0)), none⟩,
    ⟨(some 14), .op (.len false (.tmp 13)), none⟩,
    ⟨(some 15), .op (.bin .lss (.tmp 12) (.tmp 14)), none⟩]) (.kill [12, 13, 14]))
  (.cond (.tmp 15) (.ghost (.kill [15]) .skip)
  (.ghost (.kill [0, 5, 15]) (.exit 0))))
  (.seq (.block 1 (.seq (.post (.reg [⟨(some 18), .op (.mv (.tmp 0)), none⟩,
    ⟨(some 19), .op (.mv (.tmp 5)), none⟩,
    ⟨(some 20), .op (.iaddrS (.tmp 18) (.tmp 19) 1), none⟩,
    ⟨(some 21), .op (.load 1 false (.tmp 20)), none⟩,
    ⟨(some 22), .op (.mv (.tmp 1)), none⟩,
    ⟨(some 23), .call (.func i_laws_szInt64S) [(.tmp 21), (.tmp 22)], none⟩,
    ⟨(some 1), .op (.mv (.tmp 23)), none⟩]) (.kill [18, 19, 20, 21, 22, 23]))
  (.seq (.post (.reg [⟨(some 24), .op (.mv (.tmp 1)), none⟩,
    ⟨(some 25), .op (.bin .lss (.tmp 24) (.const (Value.int .i64 0))), none⟩]) (.kill [24]))
  (.cond (.tmp 25) (.ghost (.kill [0, 1, 5, 25]) (.seq (.reg [⟨(some 4), .op (.mv (.const (Value.int .i64 (-1)))), none⟩])
  .ret))
  (.ghost (.kill [25]) .skip)))))
  (.post (.reg [⟨(some 16), .op (.mv (.tmp 5)), none⟩,
    ⟨(some 17), .op (.bin .add (.tmp 16) (.const (Value.int .i64 1))), none⟩,
    ⟨(some 5), .op (.mv (.tmp 17)), none⟩]) (.kill [16, 17]))))
def lo_laws_szInt64SS_0 : AC := (.loop lb_laws_szInt64SS_0)
def ac_laws_szInt64SS : AC := (.seq (.post (.reg [⟨(some 4), .op (.mv (.const (Value.int .i64 0))), none⟩]) (.kill [4]))
  (.seq (.post (.reg [⟨(some 6), .op (.mv (.tmp 1)), none⟩,
    ⟨(some 7), .op (.mv (.tmp 0)), none⟩,
    ⟨(some 8), .op (.len false (.tmp 7)), none⟩,
    ⟨(some 9), .op (.bin .sub (.tmp 6) (.tmp 8)), none⟩,
    ⟨(some 1), .op (.mv (.tmp 9)), none⟩]) (.kill [6, 7, 8, 9]))
  (.seq (.seq (.post (.reg [⟨(some 10), .op (.mv (.tmp 1)), none⟩,
    ⟨(some 11), .op (.bin .lss (.tmp 10) (.const (Value.int .i64 0))), none⟩]) (.kill [10]))
  (.cond (.tmp 11) (.ghost (.kill [0, 1, 11]) (.seq (.reg [⟨(some 4), .op (.mv (.const (Value.int .i64 (-1)))), none⟩])
  .ret))
  (.ghost (.kill [11]) .skip)))
  (.seq (.seq (.reg [⟨(some 5), .op (.mv (.const (Value.int .i64 0))), none⟩])
  (.block 0 lo_laws_szInt64SS_0))
  (.ghost (.kill [0, 5]) (.seq (.post (.reg [⟨(some 26), .op (.mv (.tmp 1)), none⟩,
    ⟨(some 4), .op (.mv (.tmp 26)), none⟩]) (.kill [1, 26]))
  .ret))))))
theorem cf_laws_szInt64SS : chkFn Tryd.prog i_laws_szInt64SS ac_laws_szInt64SS [.tmp 4] 27 = true := by decide +kernel
def fa_laws_szInt64SS : FnA := ⟨ac_laws_szInt64SS, [.tmp 4], 27, false, true, [], .any, none⟩

/-- The checked code of laws szInt64SSS. -/
def lb_laws_szInt64SSS_0 : AC := (.seq (.seq (.post (.reg [⟨(some 12), .op (.mv (.tmp 5)), none⟩,
    ⟨(some 13), .op (.mv (.tmp 0)), none⟩,
    ⟨(some 14), .op (.len false (.tmp 13)), none⟩,
    ⟨(some 15), .op (.bin .lss (.tmp 12) (.tmp 14)), none⟩]) (.kill [12, 13, 14]))
  (.cond (.tmp 15) (.ghost (.kill [15]) .skip)
  (.ghost (.kill [0, 5, 15]) (.exit 0))))
  (.seq (.block 1 (.seq (.post (.reg [⟨(some 18), .op (.mv (.tmp 0)), none⟩,
    ⟨(some 19), .op (.mv (.tmp 5)), none⟩,
    ⟨(some 20), .op (.iaddrS (.tmp 18) (.tmp 19) 1), none⟩,
    ⟨(some 21), .op (.load 1 false (.tmp 20)), none⟩,
    ⟨(some 22), .op (.mv (.tmp 1)), none⟩,
    ⟨(some 23), .call (.func i_laws_szInt64SS) [(.tmp 21), (.tmp 22)], none⟩,
    ⟨(some 1), .op (.mv (.tmp 23)), none⟩]) (.kill [18, 19, 20, 21, 22, 23]))
  (.seq (.post (.reg [⟨(some 24), .op (.mv (.tmp 1)), none⟩,
    ⟨(some 25), .op (.bin .lss (.tmp 24) (.const (Value.int .i64 0))), none⟩]) (.kill [24]))
  (.cond (.tmp 25) (.ghost (.kill [0, 1, 5, 25]) (.seq (.reg [⟨(some 4), .op (.mv (.const (Value.int .i64 (-1)))), none⟩])
  .ret))
  (.ghost (.kill [25]) .skip)))))
  (.post (.reg [⟨(some 16), .op (.mv (.tmp 5)), none⟩,
    ⟨(some 17), .op (.bin .add (.tmp 16) (.const (Value.int .i64 1))), none⟩,
    ⟨(some 5), .op (.mv (.tmp 17)), none⟩]) (.kill [16, 17]))))
def lo_laws_szInt64SSS_0 : AC := (.loop lb_laws_szInt64SSS_0)
def ac_laws_szInt64SSS : AC := (.seq (.post (.reg [⟨(some 4), .op (.mv (.const (Value.int .i64 0))), none⟩]) (.kill [4]))
  (.seq (.post (.reg [⟨(some 6), .op (.mv (.tmp 1)), none⟩,
    ⟨(some 7), .op (.mv (.tmp 0)), none⟩,
    ⟨(some 8), .op (.len false (.tmp 7)), none⟩,
    ⟨(some 9), .op (.bin .sub (.tmp 6) (.tmp 8)), none⟩,
    ⟨(some 1), .op (.mv (.tmp 9)), none⟩]) (.kill [6, 7, 8, 9]))
  (.seq (.seq (.post (.reg [⟨(some 10), .op (.mv (.tmp 1)), none⟩,
    ⟨(some 11), .op (.bin .lss (.tmp 10) (.const (Value.int .i64 0))), none⟩]) (.kill [10]))
  (.cond (.tmp 11) (.ghost (.kill [0, 1, 11]) (.seq (.reg [⟨(some 4), .op (.mv (.const (Value.int .i64 (-1)))), none⟩])
  .ret))
  (.ghost (.kill [11]) .skip)))
  (.seq (.seq (.reg [⟨(some 5), .op (.mv (.const (Value.int .i64 0))), none⟩])
  (.block 0 lo_laws_szInt64SSS_0))
  (.ghost (.kill [0, 5]) (.seq (.post (.reg [⟨(some 26), .op (.mv (.tmp 1)), none⟩,
    ⟨(some 4), .op (.mv (.tmp 26)), none⟩]) (.kill [1, 26]))
  .ret))))))
theorem cf_laws_szInt64SSS : chkFn Tryd.prog i_laws_szInt64SSS ac_laws_szInt64SSS [.tmp 4] 27 = true := by decide +kernel
def fa_laws_szInt64SSS : FnA := ⟨ac_laws_szInt64SSS, [.tmp 4], 27, false, true, [], .any, none⟩

/-- The checked code of laws szChecker. -/
def ac_laws_szChecker : AC := (.seq (.post (.reg [⟨(some 2), .op (.box true (.tmp 0)), none⟩,
    ⟨(some 4), .op (.mv (.const (Value.int .i64 0))), none⟩]) (.kill [0, 4]))
  (.seq (.post (.reg [⟨(some 5), .op (.faddr (.tmp 2) 2), none⟩,
    ⟨(some 6), .op (.load 1 false (.tmp 5)), none⟩,
    ⟨(some 7), .op (.mv (.tmp 1)), none⟩,
    ⟨(some 8), .call (.func i_laws_szBoolS) [(.tmp 6), (.tmp 7)], none⟩,
    ⟨(some 1), .op (.mv (.tmp 8)), none⟩]) (.kill [5, 6, 7, 8]))
  (.seq (.seq (.post (.reg [⟨(some 9), .op (.mv (.tmp 1)), none⟩,
    ⟨(some 10), .op (.bin .lss (.tmp 9) (.const (Value.int .i64 0))), none⟩]) (.kill [9]))
  (.cond (.tmp 10) (.ghost (.kill [1, 2, 10]) (.seq (.reg [⟨(some 4), .op (.mv (.const (Value.int .i64 (-1)))), none⟩])
  .ret))
  (.ghost (.kill [10]) .skip)))
  (.seq (.post (.reg [⟨(some 11), .op (.faddr (.tmp 2) 3), none⟩,
    ⟨(some 12), .op (.load 1 false (.tmp 11)), none⟩,
    ⟨(some 13), .op (.mv (.tmp 1)), none⟩,
    ⟨(some 14), .call (.func i_laws_szPushSS) [(.tmp 12), (.tmp 13)], none⟩,
    ⟨(some 1), .op (.mv (.tmp 14)), none⟩]) (.kill [11, 12, 13, 14]))
  (.seq (.seq (.post (.reg [⟨(some 15), .op (.mv (.tmp 1)), none⟩,
    ⟨(some 16), .op (.bin .lss (.tmp 15) (.const (Value.int .i64 0))), none⟩]) (.kill [15]))
  (.cond (.tmp 16) (.ghost (.kill [1, 2, 16]) (.seq (.reg [⟨(some 4), .op (.mv (.const (Value.int .i64 (-1)))), none⟩])
  .ret))
  (.ghost (.kill [16]) .skip)))
  (.seq (.post (.reg [⟨(some 17), .op (.faddr (.tmp 2) 4), none⟩,
    ⟨(some 18), .op (.load 1 false (.tmp 17)), none⟩,
    ⟨(some 19), .op (.mv (.tmp 1)), none⟩,
    ⟨(some 20), .call (.func i_laws_szInt64SSS) [(.tmp 18), (.tmp 19)], none⟩,
    ⟨(some 1), .op (.mv (.tmp 20)), none⟩]) (.kill [17, 18, 19, 20]))
  (.seq (.seq (.post (.reg [⟨(some 21), .op (.mv (.tmp 1)), none⟩,
    ⟨(some 22), .op (.bin .lss (.tmp 21) (.const (Value.int .i64 0))), none⟩]) (.kill [21]))
  (.cond (.tmp 22) (.ghost (.kill [1, 2, 22]) (.seq (.reg [⟨(some 4), .op (.mv (.const (Value.int .i64 (-1)))), none⟩])
  .ret))
  (.ghost (.kill [22]) .skip)))
  (.seq (.post (.reg [⟨(some 23), .op (.faddr (.tmp 2) 5), none⟩,
    ⟨(some 24), .op (.load 1 false (.tmp 23)), none⟩,
    ⟨(some 25), .op (.mv (.tmp 1)), none⟩,
    ⟨(some 26), .call (.func i_laws_szInt64SS) [(.tmp 24), (.tmp 25)], none⟩,
    ⟨(some 1), .op (.mv (.tmp 26)), none⟩]) (.kill [2, 23, 24, 25, 26]))
  (.seq (.seq (.post (.reg [⟨(some 27), .op (.mv (.tmp 1)), none⟩,
    ⟨(some 28), .op (.bin .lss (.tmp 27) (.const (Value.int .i64 0))), none⟩]) (.kill [27]))
  (.cond (.tmp 28) (.ghost (.kill [1, 28]) (.seq (.reg [⟨(some 4), .op (.mv (.const (Value.int .i64 (-1)))), none⟩])
  .ret))
  (.ghost (.kill [28]) .skip)))
  (.seq (.post (.reg [⟨(some 29), .op (.mv (.tmp 1)), none⟩,
    ⟨(some 4), .op (.mv (.tmp 29)), none⟩]) (.kill [1, 29]))
  .ret))))))))))
theorem cf_laws_szChecker : chkFn Tryd.prog i_laws_szChecker ac_laws_szChecker [.tmp 4] 30 = true := by decide +kernel
def fa_laws_szChecker : FnA := ⟨ac_laws_szChecker, [.tmp 4], 30, false, true, [], .any, none⟩

/-- The checked code of spec l00In. -/
def ac_spec_l00In : AC := (.seq (.post (.reg [⟨(some 6), .op (.mv (.const (Value.bool false))), none⟩]) (.kill [6]))
  (.seq (.post (.reg [⟨(some 7), .op (.mv (.tmp 0)), none⟩,
    ⟨(some 8), .op (.mv (.tmp 1)), none⟩,
    ⟨(some 9), .op (.bin .geq (.tmp 7) (.tmp 8)), none⟩,
    ⟨(some 10), .op (.mv (.tmp 9)), none⟩,
    ⟨(some 11), .op (.mv (.tmp 0)), some (10, true)⟩,
    ⟨(some 12), .op (.mv (.tmp 2)), some (10, true)⟩,
    ⟨(some 13), .op (.bin .leq (.tmp 11) (.tmp 12)), some (10, true)⟩,
    ⟨(some 14), .op (.pick (.tmp 10) (.tmp 13) (.const (Value.bool false))), none⟩,
    ⟨(some 6), .op (.mv (.tmp 14)), none⟩]) (.kill [0, 1, 2, 7, 8, 9, 10, 11, 12, 13, 14]))
  .ret))
theorem cf_spec_l00In : chkFn Tryd.prog i_spec_l00In ac_spec_l00In [.tmp 6] 15 = true := by decide +kernel
def fa_spec_l00In : FnA := ⟨ac_spec_l00In, [.tmp 6], 15, false, true, [], .any, none⟩

/-- The checked code of spec l02List. -/
def lb_spec_l02List_0 : AC := (.seq (.seq (.post (.reg [⟨(some 12), .op (.mv (.tmp 7)), none⟩,
    ⟨(some 13), .op (.mv (.tmp 0)), none⟩,
    ⟨(some 14), .op (.len false (.tmp 13)), none⟩,
    ⟨(some 15), .op (.bin .lss (.tmp 12) (.tmp 14)), none⟩]) (.kill [12, 13, 14]))
  (.cond (.tmp 15) (.ghost (.kill [15]) .skip)
  (.ghost (.kill [0, 2, 7, 15]) (.exit 0))))
  (.seq (.block 1 (.seq (.post (.reg [⟨(some 18), .op (.mv (.tmp 0)), none⟩,
    ⟨(some 19), .op (.mv (.tmp 7)), none⟩,
    ⟨(some 20), .op (.iaddrS (.tmp 18) (.tmp 19) 1), none⟩,
    ⟨(some 21), .op (.load 1 false (.tmp 20)), none⟩,
    ⟨(some 22), .op (.mv (.tmp 2)), none⟩,
    ⟨(some 23), .op (.bin .sub (.tmp 22) (.const (Value.int .i64 1))), none⟩,
    ⟨(some 24), .call (.func i_spec_l00In) [(.tmp 21), (.const (Value.int .i64 0)), (.tmp 23)], none⟩,
    ⟨(some 25), .op (.un .not (.tmp 24)), none⟩]) (.kill [18, 19, 20, 21, 22, 23, 24]))
  (.cond (.tmp 25) (.ghost (.kill [0, 2, 7, 25]) (.seq (.reg [⟨(some 6), .op (.mv (.const (Value.bool false))), none⟩])
  .ret))
  (.ghost (.kill [25]) .skip))))
  (.post (.reg [⟨(some 16), .op (.mv (.tmp 7)), none⟩,
    ⟨(some 17), .op (.bin .add (.tmp 16) (.const (Value.int .i64 1))), none⟩,
    ⟨(some 7), .op (.mv (.tmp 17)), none⟩]) (.kill [16, 17]))))
def lo_spec_l02List_0 : AC := (.loop lb_spec_l02List_0)
def ac_spec_l02List : AC := (.seq (.post (.reg [⟨(some 6), .op (.mv (.const (Value.bool false))), none⟩]) (.kill [6]))
  (.seq (.seq (.post (.reg [⟨(some 8), .op (.mv (.tmp 0)), none⟩,
    ⟨(some 9), .op (.len false (.tmp 8)), none⟩,
    ⟨(some 10), .op (.mv (.tmp 1)), none⟩,
    ⟨(some 11), .op (.bin .neq (.tmp 9) (.tmp 10)), none⟩]) (.kill [1, 8, 9, 10]))
  (.cond (.tmp 11) (.ghost (.kill [0, 2, 11]) (.seq (.reg [⟨(some 6), .op (.mv (.const (Value.bool false))), none⟩])
  .ret))
  (.ghost (.kill [11]) .skip)))
  (.seq (.seq (.reg [⟨(some 7), .op (.mv (.const (Value.int .i64 0))), none⟩])
  (.block 0 lo_spec_l02List_0))
  (.ghost (.kill [0, 2, 7]) (.seq (.reg [⟨(some 6), .op (.mv (.const (Value.bool true))), none⟩])
  .ret)))))
theorem cf_spec_l02List : chkFn Tryd.prog i_spec_l02List ac_spec_l02List [.tmp 6] 26 = true := by decide +kernel
def fa_spec_l02List : FnA := ⟨ac_spec_l02List, [.tmp 6], 26, false, true, [], .any, none⟩

/-- The checked code of spec l02Ok. -/
def lb_spec_l02Ok_0 : AC := (.seq (.seq (.post (.reg [⟨(some 96), .op (.mv (.tmp 5)), none⟩,
    ⟨(some 97), .op (.bin .lss (.tmp 96) (.const (Value.int .i64 2))), none⟩]) (.kill [96]))
  (.cond (.tmp 97) (.ghost (.kill [97]) .skip)
  (.ghost (.kill [5, 97]) (.exit 2))))
  (.seq (.block 3 (.seq (.post (.draw [⟨0, ⟨(some 100), .op (.mv (.tmp 0)), none⟩, []⟩,
    ⟨1, ⟨(some 101), .op (.nilc (.tmp 100)), none⟩, []⟩,
    ⟨2, ⟨(some 102), .op (.faddr (.tmp 101) 3), none⟩, []⟩,
    ⟨3, ⟨(some 103), .op (.load 1 false (.tmp 102)), none⟩, []⟩,
    ⟨4, ⟨(some 104), .op (.mv (.tmp 4)), none⟩, []⟩,
    ⟨5, ⟨(some 105), .op (.iaddrS (.tmp 103) (.tmp 104) 1), none⟩, []⟩,
    ⟨6, ⟨(some 106), .op (.load 1 false (.tmp 105)), none⟩, []⟩,
    ⟨7, ⟨(some 107), .op (.mv (.tmp 5)), none⟩, []⟩,
    ⟨8, ⟨(some 108), .op (.iaddrS (.tmp 106) (.tmp 107) 2), none⟩, []⟩,
    ⟨9, ⟨(some 109), .op (.faddr (.tmp 108) 0), none⟩, []⟩,
    ⟨10, ⟨(some 110), .op (.load 1 false (.tmp 109)), none⟩, []⟩,
    ⟨11, ⟨(some 111), .op (.mv (.tmp 3)), none⟩, []⟩,
    ⟨12, ⟨(some 112), .op (.bin .sub (.tmp 111) (.const (Value.int .i64 1))), none⟩, []⟩,
    ⟨13, ⟨(some 113), .call (.func i_spec_l00In) [(.tmp 110), (.const (Value.int .i64 0)), (.tmp 112)], none⟩, []⟩,
    ⟨14, ⟨(some 114), .op (.un .not (.tmp 113)), none⟩, []⟩,
    ⟨15, ⟨(some 115), .op (.mv (.tmp 114)), none⟩, []⟩,
    ⟨16, ⟨(some 116), .op (.mv (.tmp 0)), some (115, false)⟩, []⟩,
    ⟨17, ⟨(some 117), .op (.nilc (.tmp 116)), some (115, false)⟩, []⟩,
    ⟨18, ⟨(some 118), .op (.faddr (.tmp 117) 3), some (115, false)⟩, []⟩,
    ⟨19, ⟨(some 119), .op (.load 1 false (.tmp 118)), some (115, false)⟩, []⟩,
    ⟨20, ⟨(some 120), .op (.mv (.tmp 4)), some (115, false)⟩, []⟩,
    ⟨21, ⟨(some 121), .op (.iaddrS (.tmp 119) (.tmp 120) 1), some (115, false)⟩, []⟩,
    ⟨22, ⟨(some 122), .op (.load 1 false (.tmp 121)), some (115, false)⟩, []⟩,
    ⟨23, ⟨(some 123), .op (.mv (.tmp 5)), some (115, false)⟩, []⟩,
    ⟨24, ⟨(some 124), .op (.iaddrS (.tmp 122) (.tmp 123) 2), some (115, false)⟩, []⟩,
    ⟨25, ⟨(some 125), .op (.faddr (.tmp 124) 1), some (115, false)⟩, []⟩,
    ⟨26, ⟨(some 126), .op (.load 1 false (.tmp 125)), some (115, false)⟩, []⟩,
    ⟨27, ⟨(some 127), .op (.mv (.tmp 0)), some (115, false)⟩, []⟩,
    ⟨28, ⟨(some 128), .op (.nilc (.tmp 127)), some (115, false)⟩, []⟩,
    ⟨29, ⟨(some 129), .op (.faddr (.tmp 128) 0), some (115, false)⟩, []⟩,
    ⟨30, ⟨(some 130), .op (.load 1 false (.tmp 129)), some (115, false)⟩, []⟩,
    ⟨31, ⟨(some 131), .op (.bin .sub (.tmp 130) (.const (Value.int .i64 1))), some (115, false)⟩, []⟩,
    ⟨32, ⟨(some 132), .call (.func i_spec_l00In) [(.tmp 126), (.const (Value.int .i64 0)), (.tmp 131)], some (115, false)⟩, []⟩,
    ⟨33, ⟨(some 133), .op (.un .not (.tmp 132)), some (115, false)⟩, []⟩,
    ⟨34, ⟨(some 134), .op (.pick (.tmp 115) (.const (Value.bool true)) (.tmp 133)), none⟩, []⟩,
    ⟨35, ⟨(some 135), .op (.mv (.tmp 134)), none⟩, []⟩,
    ⟨36, ⟨(some 136), .op (.mv (.tmp 0)), some (135, false)⟩, []⟩,
    ⟨37, ⟨(some 137), .op (.nilc (.tmp 136)), some (135, false)⟩, []⟩,
    ⟨38, ⟨(some 138), .op (.faddr (.tmp 137) 4), some (135, false)⟩, []⟩,
    ⟨39, ⟨(some 139), .op (.load 1 false (.tmp 138)), some (135, false)⟩, []⟩,
    ⟨40, ⟨(some 140), .op (.mv (.tmp 4)), some (135, false)⟩, []⟩,
    ⟨41, ⟨(some 141), .op (.iaddrS (.tmp 139) (.tmp 140) 1), some (135, false)⟩, []⟩,
    ⟨42, ⟨(some 142), .op (.load 1 false (.tmp 141)), some (135, false)⟩, []⟩,
    ⟨43, ⟨(some 143), .op (.mv (.tmp 5)), some (135, false)⟩, []⟩,
    ⟨44, ⟨(some 144), .op (.iaddrS (.tmp 142) (.tmp 143) 1), some (135, false)⟩, []⟩,
    ⟨45, ⟨(some 145), .op (.load 1 false (.tmp 144)), some (135, false)⟩, []⟩,
    ⟨46, ⟨(some 146), .op (.mv (.tmp 0)), some (135, false)⟩, []⟩,
    ⟨47, ⟨(some 147), .op (.nilc (.tmp 146)), some (135, false)⟩, []⟩,
    ⟨48, ⟨(some 148), .op (.faddr (.tmp 147) 0), some (135, false)⟩, []⟩,
    ⟨49, ⟨(some 149), .op (.load 1 false (.tmp 148)), some (135, false)⟩, []⟩,
    ⟨50, ⟨(some 150), .op (.bin .add (.tmp 149) (.const (Value.int .i64 1))), some (135, false)⟩, []⟩,
    ⟨51, ⟨(some 151), .op (.mv (.tmp 3)), some (135, false)⟩, []⟩,
    ⟨52, ⟨(some 152), .call (.func i_spec_l02List) [(.tmp 145), (.tmp 150), (.tmp 151)], some (135, false)⟩, []⟩,
    ⟨53, ⟨(some 153), .op (.un .not (.tmp 152)), some (135, false)⟩, []⟩,
    ⟨54, ⟨(some 154), .op (.pick (.tmp 135) (.const (Value.bool true)) (.tmp 153)), none⟩, []⟩]
    [0, 1, 3, 7, 0, 31, 63, 0, 255, 511, 1023, 0, 2048, 8191, 16383, 32767, 65535, 131071, 262143, 524287, 65535, 2097151, 4194303, 65535, 16777215, 33554431, 67108863, 65535, 134283263, 402718719, 939589631, 2013331455, 4294967295, 8589934591, 17179869183, 34359738367, 68719476735, 137438953471, 274877906943, 549755813887, 68719476735, 2199023255551, 4398046511103, 68719476735, 17592186044415, 35184372088831, 68719476735, 70437463654399, 211174952009727, 492649928720383, 1055599882141695, 68719476735, 4503599627370495, 9007199254740991, 18014398509481983]) (.kill [100, 101, 102, 103, 104, 105, 106, 107, 108, 109, 110, 111, 112, 113, 114, 115, 116, 117, 118, 119, 120, 121, 122, 123, 124, 125, 126, 127, 128, 129, 130, 131, 132, 133, 134, 135, 136, 137, 138, 139, 140, 141, 142, 143, 144, 145, 146, 147, 148, 149, 150, 151, 152, 153]))
  (.cond (.tmp 154) (.ghost (.kill [0, 3, 4, 5, 154]) (.seq (.reg [⟨(some 2), .op (.mv (.const (Value.bool false))), none⟩])
  .ret))
  (.ghost (.kill [154]) .skip))))
  (.post (.reg [⟨(some 98), .op (.mv (.tmp 5)), none⟩,
    ⟨(some 99), .op (.bin .add (.tmp 98) (.const (Value.int .i64 1))), none⟩,
    ⟨(some 5), .op (.mv (.tmp 99)), none⟩]) (.kill [98, 99]))))
def lo_spec_l02Ok_0 : AC := (.loop lb_spec_l02Ok_0)
def lb_spec_l02Ok_1 : AC := (.seq (.seq (.post (.reg [⟨(some 59), .op (.mv (.tmp 4)), none⟩,
    ⟨(some 60), .op (.mv (.tmp 3)), none⟩,
    ⟨(some 61), .op (.bin .lss (.tmp 59) (.tmp 60)), none⟩]) (.kill [59, 60]))
  (.cond (.tmp 61) (.ghost (.kill [61]) .skip)
  (.ghost (.kill [0, 3, 4, 61]) (.exit 0))))
  (.seq (.block 1 (.seq (.seq (.post (.reg [⟨(some 64), .op (.mv (.tmp 0)), none⟩,
    ⟨(some 65), .op (.nilc (.tmp 64)), none⟩,
    ⟨(some 66), .op (.faddr (.tmp 65) 3), none⟩,
    ⟨(some 67), .op (.load 1 false (.tmp 66)), none⟩,
    ⟨(some 68), .op (.mv (.tmp 4)), none⟩,
    ⟨(some 69), .op (.iaddrS (.tmp 67) (.tmp 68) 1), none⟩,
    ⟨(some 70), .op (.load 1 false (.tmp 69)), none⟩,
    ⟨(some 71), .op (.len false (.tmp 70)), none⟩,
    ⟨(some 72), .op (.bin .neq (.tmp 71) (.const (Value.int .i64 2))), none⟩,
    ⟨(some 73), .op (.mv (.tmp 72)), none⟩,
    ⟨(some 74), .op (.mv (.tmp 0)), some (73, false)⟩,
    ⟨(some 75), .op (.nilc (.tmp 74)), some (73, false)⟩,
    ⟨(some 76), .op (.faddr (.tmp 75) 4), some (73, false)⟩,
    ⟨(some 77), .op (.load 1 false (.tmp 76)), some (73, false)⟩,
    ⟨(some 78), .op (.mv (.tmp 4)), some (73, false)⟩,
    ⟨(some 79), .op (.iaddrS (.tmp 77) (.tmp 78) 1), some (73, false)⟩,
    ⟨(some 80), .op (.load 1 false (.tmp 79)), some (73, false)⟩,
    ⟨(some 81), .op (.len false (.tmp 80)), some (73, false)⟩,
    ⟨(some 82), .op (.bin .neq (.tmp 81) (.const (Value.int .i64 2))), some (73, false)⟩,
    ⟨(some 83), .op (.pick (.tmp 73) (.const (Value.bool true)) (.tmp 82)), none⟩,
    ⟨(some 84), .op (.mv (.tmp 83)), none⟩,
    ⟨(some 85), .op (.mv (.tmp 0)), some (84, false)⟩,
    ⟨(some 86), .op (.nilc (.tmp 85)), some (84, false)⟩,
    ⟨(some 87), .op (.faddr (.tmp 86) 5), some (84, false)⟩,
    ⟨(some 88), .op (.load 1 false (.tmp 87)), some (84, false)⟩,
    ⟨(some 89), .op (.mv (.tmp 4)), some (84, false)⟩,
    ⟨(some 90), .op (.iaddrS (.tmp 88) (.tmp 89) 1), some (84, false)⟩,
    ⟨(some 91), .op (.load 1 false (.tmp 90)), some (84, false)⟩,
    ⟨(some 92), .op (.mv (.tmp 3)), some (84, false)⟩,
    ⟨(some 93), .call (.func i_spec_l02List) [(.tmp 91), (.const (Value.int .i64 2)), (.tmp 92)], some (84, false)⟩,
    ⟨(some 94), .op (.un .not (.tmp 93)), some (84, false)⟩,
    ⟨(some 95), .op (.pick (.tmp 84) (.const (Value.bool true)) (.tmp 94)), none⟩]) (.kill [64, 65, 66, 67, 68, 69, 70, 71, 72, 73, 74, 75, 76, 77, 78, 79, 80, 81, 82, 83, 84, 85, 86, 87, 88, 89, 90, 91, 92, 93, 94]))
  (.cond (.tmp 95) (.ghost (.kill [0, 3, 4, 95]) (.seq (.reg [⟨(some 2), .op (.mv (.const (Value.bool false))), none⟩])
  .ret))
  (.ghost (.kill [95]) .skip)))
  (.seq (.reg [⟨(some 5), .op (.mv (.const (Value.int .i64 0))), none⟩])
  (.block 2 lo_spec_l02Ok_0))))
  (.ghost (.kill [5]) (.post (.reg [⟨(some 62), .op (.mv (.tmp 4)), none⟩,
    ⟨(some 63), .op (.bin .add (.tmp 62) (.const (Value.int .i64 1))), none⟩,
    ⟨(some 4), .op (.mv (.tmp 63)), none⟩]) (.kill [62, 63])))))
def lo_spec_l02Ok_1 : AC := (.loop lb_spec_l02Ok_1)
def ac_spec_l02Ok : AC := (.seq (.post (.reg [⟨(some 2), .op (.mv (.const (Value.bool false))), none⟩]) (.kill [2]))
  (.seq (.post (.reg [⟨(some 6), .op (.mv (.tmp 0)), none⟩,
    ⟨(some 7), .op (.nilc (.tmp 6)), none⟩,
    ⟨(some 8), .op (.faddr (.tmp 7) 2), none⟩,
    ⟨(some 9), .op (.load 1 false (.tmp 8)), none⟩,
    ⟨(some 10), .op (.len false (.tmp 9)), none⟩,
    ⟨(some 3), .op (.mv (.tmp 10)), none⟩]) (.kill [6, 7, 8, 9, 10]))
  (.seq (.seq (.post (.reg [⟨(some 11), .op (.mv (.tmp 3)), none⟩,
    ⟨(some 12), .call (.func i_spec_l00In) [(.tmp 11), (.const (Value.int .i64 1)), (.const (Value.int .i64 40))], none⟩,
    ⟨(some 13), .op (.un .not (.tmp 12)), none⟩,
    ⟨(some 14), .op (.mv (.tmp 13)), none⟩,
    ⟨(some 15), .op (.mv (.tmp 0)), some (14, false)⟩,
    ⟨(some 16), .op (.nilc (.tmp 15)), some (14, false)⟩,
    ⟨(some 17), .op (.faddr (.tmp 16) 0), some (14, false)⟩,
    ⟨(some 18), .op (.load 1 false (.tmp 17)), some (14, false)⟩,
    ⟨(some 19), .call (.func i_spec_l00In) [(.tmp 18), (.const (Value.int .i64 1)), (.const (Value.int .i64 80))], some (14, false)⟩,
    ⟨(some 20), .op (.un .not (.tmp 19)), some (14, false)⟩,
    ⟨(some 21), .op (.pick (.tmp 14) (.const (Value.bool true)) (.tmp 20)), none⟩,
    ⟨(some 22), .op (.mv (.tmp 21)), none⟩,
    ⟨(some 23), .op (.mv (.tmp 0)), some (22, false)⟩,
    ⟨(some 24), .op (.nilc (.tmp 23)), some (22, false)⟩,
    ⟨(some 25), .op (.faddr (.tmp 24) 1), some (22, false)⟩,
    ⟨(some 26), .op (.load 1 false (.tmp 25)), some (22, false)⟩,
    ⟨(some 27), .op (.mv (.tmp 3)), some (22, false)⟩,
    ⟨(some 28), .op (.bin .sub (.tmp 27) (.const (Value.int .i64 1))), some (22, false)⟩,
    ⟨(some 29), .call (.func i_spec_l00In) [(.tmp 26), (.const (Value.int .i64 0)), (.tmp 28)], some (22, false)⟩,
    ⟨(some 30), .op (.un .not (.tmp 29)), some (22, false)⟩,
    ⟨(some 31), .op (.pick (.tmp 22) (.const (Value.bool true)) (.tmp 30)), none⟩,
    ⟨(some 32), .op (.mv (.tmp 31)), none⟩,
    ⟨(some 33), .op (.mv (.tmp 0)), some (32, false)⟩,
    ⟨(some 34), .op (.nilc (.tmp 33)), some (32, false)⟩,
    ⟨(some 35), .op (.faddr (.tmp 34) 3), some (32, false)⟩,
    ⟨(some 36), .op (.load 1 false (.tmp 35)), some (32, false)⟩,
    ⟨(some 37), .op (.len false (.tmp 36)), some (32, false)⟩,
    ⟨(some 38), .op (.mv (.tmp 3)), some (32, false)⟩,
    ⟨(some 39), .op (.bin .neq (.tmp 37) (.tmp 38)), some (32, false)⟩,
    ⟨(some 40), .op (.pick (.tmp 32) (.const (Value.bool true)) (.tmp 39)), none⟩,
    ⟨(some 41), .op (.mv (.tmp 40)), none⟩,
    ⟨(some 42), .op (.mv (.tmp 0)), some (41, false)⟩,
    ⟨(some 43), .op (.nilc (.tmp 42)), some (41, false)⟩,
    ⟨(some 44), .op (.faddr (.tmp 43) 4), some (41, false)⟩,
    ⟨(some 45), .op (.load 1 false (.tmp 44)), some (41, false)⟩,
    ⟨(some 46), .op (.len false (.tmp 45)), some (41, false)⟩,
    ⟨(some 47), .op (.mv (.tmp 3)), some (41, false)⟩,
    ⟨(some 48), .op (.bin .neq (.tmp 46) (.tmp 47)), some (41, false)⟩,
    ⟨(some 49), .op (.pick (.tmp 41) (.const (Value.bool true)) (.tmp 48)), none⟩,
    ⟨(some 50), .op (.mv (.tmp 49)), none⟩,
    ⟨(some 51), .op (.mv (.tmp 0)), some (50, false)⟩,
    ⟨(some 52), .op (.nilc (.tmp 51)), some (50, false)⟩,
    ⟨(some 53), .op (.faddr (.tmp 52) 5), some (50, false)⟩,
    ⟨(some 54), .op (.load 1 false (.tmp 53)), some (50, false)⟩,
    ⟨(some 55), .op (.len false (.tmp 54)), some (50, false)⟩,
    ⟨(some 56), .op (.mv (.tmp 3)), some (50, false)⟩,
    ⟨(some 57), .op (.bin .neq (.tmp 55) (.tmp 56)), some (50, false)⟩,
    ⟨(some 58), .op (.pick (.tmp 50) (.const (Value.bool true)) (.tmp 57)), none⟩]) (.kill [11, 12, 13, 14, 15, 16, 17, 18, 19, 20, 21, 22, 23, 24, 25, 26, 27, 28, 29, 30, 31, 32, 33, 34, 35, 36, 37, 38, 39, 40, 41, 42, 43, 44, 45, 46, 47, 48, 49, 50, 51, 52, 53, 54, 55, 56, 57]))
  (.cond (.tmp 58) (.ghost (.kill [0, 3, 58]) (.seq (.reg [⟨(some 2), .op (.mv (.const (Value.bool false))), none⟩])
  .ret))
  (.ghost (.kill [58]) .skip)))
  (.seq (.seq (.reg [⟨(some 4), .op (.mv (.const (Value.int .i64 0))), none⟩])
  (.block 0 lo_spec_l02Ok_1))
  (.ghost (.kill [0, 3, 4]) (.seq (.reg [⟨(some 2), .op (.mv (.const (Value.bool true))), none⟩])
  .ret))))))
theorem cf_spec_l02Ok : chkFn Tryd.prog i_spec_l02Ok ac_spec_l02Ok [.tmp 2] 155 = true := by decide +kernel
def fa_spec_l02Ok : FnA := ⟨ac_spec_l02Ok, [.tmp 2], 155, false, true, [], .any, none⟩

/-- The checked code of spec Decimal. -/
def ac_spec_Decimal : AC := (.seq (.post (.reg [⟨(some 2), .op (.mv (.const (Value.string ⟨#[]⟩))), none⟩]) (.kill [2]))
  (.seq (.seq (.post (.reg [⟨(some 3), .op (.mv (.tmp 0)), none⟩,
    ⟨(some 4), .op (.bin .geq (.tmp 3) (.const (Value.int .i64 10))), none⟩]) (.kill [3]))
  (.cond (.tmp 4) (.ghost (.kill [4]) (.seq (.post (.draw [⟨0, ⟨(some 5), .op (.mv (.tmp 0)), none⟩, []⟩,
    ⟨1, ⟨(some 6), .op (.bin .quo (.tmp 5) (.const (Value.int .i64 10))), none⟩, []⟩,
    ⟨2, ⟨(some 7), .call (.func i_spec_Decimal) [(.tmp 6)] true, none⟩, []⟩,
    ⟨3, ⟨(some 8), .op (.mv (.tmp 0)), none⟩, []⟩,
    ⟨4, ⟨(some 9), .op (.bin .rem (.tmp 8) (.const (Value.int .i64 10))), none⟩, []⟩,
    ⟨5, ⟨(some 10), .op (.bin .add (.const (Value.int .i64 48)) (.tmp 9)), none⟩, []⟩,
    ⟨6, ⟨(some 11), .op (.conv .u8 (.tmp 10)), none⟩, []⟩,
    ⟨7, ⟨(some 12), .op (.lits true 1 1 (Value.int .u8 0) [(0, (.tmp 11))]), none⟩, []⟩,
    ⟨8, ⟨(some 13), .op (.b2s (.tmp 12)), none⟩, []⟩,
    ⟨9, ⟨(some 14), .op (.bin .add (.tmp 7) (.tmp 13)), none⟩, []⟩,
    ⟨10, ⟨(some 2), .op (.mv (.tmp 14)), none⟩, []⟩]
    [0, 1, 3, 0, 8, 24, 56, 120, 248, 511, 1023]) (.kill [0, 5, 6, 7, 8, 9, 10, 11, 12, 13, 14]))
  .ret))
  (.ghost (.kill [4]) .skip)))
  (.seq (.post (.reg [⟨(some 15), .op (.mv (.tmp 0)), none⟩,
    ⟨(some 16), .op (.bin .add (.const (Value.int .i64 48)) (.tmp 15)), none⟩,
    ⟨(some 17), .op (.conv .u8 (.tmp 16)), none⟩,
    ⟨(some 18), .op (.lits true 1 1 (Value.int .u8 0) [(0, (.tmp 17))]), none⟩,
    ⟨(some 19), .op (.b2s (.tmp 18)), none⟩,
    ⟨(some 2), .op (.mv (.tmp 19)), none⟩]) (.kill [0, 15, 16, 17, 18, 19]))
  .ret)))
theorem cf_spec_Decimal : chkFn Tryd.prog i_spec_Decimal ac_spec_Decimal [.tmp 2] 20 = true := by decide +kernel
def fa_spec_Decimal : FnA := ⟨ac_spec_Decimal, [.tmp 2], 20, false, true, [], .any, none⟩

/-- The checked code of spec l02Row. -/
def lb_spec_l02Row_0 : AC := (.seq (.seq (.post (.reg [⟨(some 6), .op (.mv (.tmp 5)), none⟩,
    ⟨(some 7), .op (.mv (.tmp 1)), none⟩,
    ⟨(some 8), .op (.len false (.tmp 7)), none⟩,
    ⟨(some 9), .op (.bin .lss (.tmp 6) (.tmp 8)), none⟩]) (.kill [6, 7, 8]))
  (.cond (.tmp 9) (.ghost (.kill [9]) .skip)
  (.ghost (.kill [1, 5, 9]) (.exit 0))))
  (.seq (.block 1 (.post (.reg [⟨(some 12), .op (.mv (.tmp 0)), none⟩,
    ⟨(some 13), .op (.mv (.tmp 1)), none⟩,
    ⟨(some 14), .op (.mv (.tmp 5)), none⟩,
    ⟨(some 15), .op (.iaddrS (.tmp 13) (.tmp 14) 1), none⟩,
    ⟨(some 16), .op (.load 1 false (.tmp 15)), none⟩,
    ⟨(some 17), .call (.func i_spec_Decimal) [(.tmp 16)], none⟩,
    ⟨(some 18), .op (.bin .add (.const (Value.string ⟨#[32]⟩)) (.tmp 17)), none⟩,
    ⟨(some 19), .op (.bin .add (.tmp 12) (.tmp 18)), none⟩,
    ⟨(some 0), .op (.mv (.tmp 19)), none⟩]) (.kill [12, 13, 14, 15, 16, 17, 18, 19])))
  (.post (.reg [⟨(some 10), .op (.mv (.tmp 5)), none⟩,
    ⟨(some 11), .op (.bin .add (.tmp 10) (.const (Value.int .i64 1))), none⟩,
    ⟨(some 5), .op (.mv (.tmp 11)), none⟩]) (.kill [10, 11]))))
def lo_spec_l02Row_0 : AC := (.loop lb_spec_l02Row_0)
def ac_spec_l02Row : AC := (.seq (.post (.reg [⟨(some 4), .op (.mv (.const (Value.string ⟨#[]⟩))), none⟩]) (.kill [4]))
  (.seq (.seq (.reg [⟨(some 5), .op (.mv (.const (Value.int .i64 0))), none⟩])
  (.block 0 lo_spec_l02Row_0))
  (.ghost (.kill [1, 5]) (.seq (.post (.reg [⟨(some 20), .op (.mv (.tmp 0)), none⟩,
    ⟨(some 4), .op (.mv (.tmp 20)), none⟩]) (.kill [0, 20]))
  .ret))))
theorem cf_spec_l02Row : chkFn Tryd.prog i_spec_l02Row ac_spec_l02Row [.tmp 4] 21 = true := by decide +kernel
def fa_spec_l02Row : FnA := ⟨ac_spec_l02Row, [.tmp 4], 21, false, true, [], .any, none⟩

/-- The checked code of spec CheckerText. -/
def lb_spec_CheckerText_0 : AC := (.seq (.seq (.post (.reg [⟨(some 31), .op (.mv (.tmp 6)), none⟩,
    ⟨(some 32), .op (.bin .lss (.tmp 31) (.const (Value.int .i64 2))), none⟩]) (.kill [31]))
  (.cond (.tmp 32) (.ghost (.kill [32]) .skip)
  (.ghost (.kill [6, 32]) (.exit 2))))
  (.seq (.block 3 (.post (.draw [⟨0, ⟨(some 35), .op (.mv (.tmp 5)), none⟩, []⟩,
    ⟨1, ⟨(some 36), .op (.faddr (.tmp 1) 3), none⟩, []⟩,
    ⟨2, ⟨(some 37), .op (.load 1 false (.tmp 36)), none⟩, []⟩,
    ⟨3, ⟨(some 38), .op (.mv (.tmp 4)), none⟩, []⟩,
    ⟨4, ⟨(some 39), .op (.iaddrS (.tmp 37) (.tmp 38) 1), none⟩, []⟩,
    ⟨5, ⟨(some 40), .op (.load 1 false (.tmp 39)), none⟩, []⟩,
    ⟨6, ⟨(some 41), .op (.mv (.tmp 6)), none⟩, []⟩,
    ⟨7, ⟨(some 42), .op (.iaddrS (.tmp 40) (.tmp 41) 2), none⟩, []⟩,
    ⟨8, ⟨(some 43), .op (.faddr (.tmp 42) 0), none⟩, []⟩,
    ⟨9, ⟨(some 44), .op (.load 1 false (.tmp 43)), none⟩, []⟩,
    ⟨10, ⟨(some 45), .op (.faddr (.tmp 1) 3), none⟩, []⟩,
    ⟨11, ⟨(some 46), .op (.load 1 false (.tmp 45)), none⟩, []⟩,
    ⟨12, ⟨(some 47), .op (.mv (.tmp 4)), none⟩, []⟩,
    ⟨13, ⟨(some 48), .op (.iaddrS (.tmp 46) (.tmp 47) 1), none⟩, []⟩,
    ⟨14, ⟨(some 49), .op (.load 1 false (.tmp 48)), none⟩, []⟩,
    ⟨15, ⟨(some 50), .op (.mv (.tmp 6)), none⟩, []⟩,
    ⟨16, ⟨(some 51), .op (.iaddrS (.tmp 49) (.tmp 50) 2), none⟩, []⟩,
    ⟨17, ⟨(some 52), .op (.faddr (.tmp 51) 1), none⟩, []⟩,
    ⟨18, ⟨(some 53), .op (.load 1 false (.tmp 52)), none⟩, []⟩,
    ⟨19, ⟨(some 54), .op (.lits true 1 2 (Value.int .i64 0) [(0, (.tmp 44)), (1, (.tmp 53))]), none⟩, []⟩,
    ⟨20, ⟨(some 55), .call (.func i_spec_l02Row) [(.tmp 35), (.tmp 54)], none⟩, []⟩,
    ⟨21, ⟨(some 5), .op (.mv (.tmp 55)), none⟩, []⟩]
    [0, 0, 2, 0, 14, 30, 0, 126, 254, 510, 0, 1024, 0, 7168, 15360, 0, 64512, 130048, 261120, 524286, 1048575, 2097151]) (.kill [35, 36, 37, 38, 39, 40, 41, 42, 43, 44, 45, 46, 47, 48, 49, 50, 51, 52, 53, 54, 55])))
  (.post (.reg [⟨(some 33), .op (.mv (.tmp 6)), none⟩,
    ⟨(some 34), .op (.bin .add (.tmp 33) (.const (Value.int .i64 1))), none⟩,
    ⟨(some 6), .op (.mv (.tmp 34)), none⟩]) (.kill [33, 34]))))
def lo_spec_CheckerText_0 : AC := (.loop lb_spec_CheckerText_0)
def lb_spec_CheckerText_1 : AC := (.seq (.seq (.post (.reg [⟨(some 19), .op (.mv (.tmp 4)), none⟩,
    ⟨(some 20), .op (.faddr (.tmp 1) 2), none⟩,
    ⟨(some 21), .op (.load 1 false (.tmp 20)), none⟩,
    ⟨(some 22), .op (.len false (.tmp 21)), none⟩,
    ⟨(some 23), .op (.bin .lss (.tmp 19) (.tmp 22)), none⟩]) (.kill [19, 20, 21, 22]))
  (.cond (.tmp 23) (.ghost (.kill [23]) .skip)
  (.ghost (.kill [1, 4, 23]) (.exit 0))))
  (.seq (.block 1 (.seq (.reg [⟨(some 5), .op (.mv (.const (Value.string ⟨#[110, 111]⟩))), none⟩])
  (.seq (.seq (.post (.reg [⟨(some 26), .op (.faddr (.tmp 1) 2), none⟩,
    ⟨(some 27), .op (.load 1 false (.tmp 26)), none⟩,
    ⟨(some 28), .op (.mv (.tmp 4)), none⟩,
    ⟨(some 29), .op (.iaddrS (.tmp 27) (.tmp 28) 1), none⟩,
    ⟨(some 30), .op (.load 1 false (.tmp 29)), none⟩]) (.kill [26, 27, 28, 29]))
  (.cond (.tmp 30) (.ghost (.kill [5, 30]) (.reg [⟨(some 5), .op (.mv (.const (Value.string ⟨#[121, 101, 115]⟩))), none⟩]))
  (.ghost (.kill [30]) .skip)))
  (.seq (.seq (.reg [⟨(some 6), .op (.mv (.const (Value.int .i64 0))), none⟩])
  (.block 2 lo_spec_CheckerText_0))
  (.ghost (.kill [6]) (.seq (.post (.draw [⟨0, ⟨(some 56), .op (.mv (.tmp 5)), none⟩, []⟩,
    ⟨1, ⟨(some 57), .op (.faddr (.tmp 1) 4), none⟩, []⟩,
    ⟨2, ⟨(some 58), .op (.load 1 false (.tmp 57)), none⟩, []⟩,
    ⟨3, ⟨(some 59), .op (.mv (.tmp 4)), none⟩, []⟩,
    ⟨4, ⟨(some 60), .op (.iaddrS (.tmp 58) (.tmp 59) 1), none⟩, []⟩,
    ⟨5, ⟨(some 61), .op (.load 1 false (.tmp 60)), none⟩, []⟩,
    ⟨6, ⟨(some 62), .op (.iaddrS (.tmp 61) (.const (Value.int .i64 0)) 1), none⟩, []⟩,
    ⟨7, ⟨(some 63), .op (.load 1 false (.tmp 62)), none⟩, []⟩,
    ⟨9, ⟨(some 65), .op (.faddr (.tmp 1) 4), none⟩, []⟩,
    ⟨10, ⟨(some 66), .op (.load 1 false (.tmp 65)), none⟩, []⟩,
    ⟨11, ⟨(some 67), .op (.mv (.tmp 4)), none⟩, []⟩,
    ⟨12, ⟨(some 68), .op (.iaddrS (.tmp 66) (.tmp 67) 1), none⟩, []⟩,
    ⟨13, ⟨(some 69), .op (.load 1 false (.tmp 68)), none⟩, []⟩,
    ⟨14, ⟨(some 70), .op (.iaddrS (.tmp 69) (.const (Value.int .i64 1)) 1), none⟩, []⟩,
    ⟨15, ⟨(some 71), .op (.load 1 false (.tmp 70)), none⟩, []⟩,
    ⟨8, ⟨(some 64), .call (.func i_spec_l02Row) [(.tmp 56), (.tmp 63)], none⟩, [10, 12, 13, 14, 15]⟩,
    ⟨16, ⟨(some 72), .call (.func i_spec_l02Row) [(.tmp 64), (.tmp 71)], none⟩, []⟩,
    ⟨17, ⟨(some 5), .op (.mv (.tmp 72)), none⟩, []⟩]
    [0, 0, 2, 0, 14, 30, 62, 126, 255, 0, 512, 0, 3584, 7680, 15872, 32256, 65535, 131071]) (.kill [56, 57, 58, 59, 60, 61, 62, 63, 64, 65, 66, 67, 68, 69, 70, 71, 72]))
  (.post (.reg [⟨(some 73), .op (.mv (.tmp 3)), none⟩,
    ⟨(some 74), .op (.mv (.tmp 5)), none⟩,
    ⟨(some 75), .op (.faddr (.tmp 1) 5), none⟩,
    ⟨(some 76), .op (.load 1 false (.tmp 75)), none⟩,
    ⟨(some 77), .op (.mv (.tmp 4)), none⟩,
    ⟨(some 78), .op (.iaddrS (.tmp 76) (.tmp 77) 1), none⟩,
    ⟨(some 79), .op (.load 1 false (.tmp 78)), none⟩,
    ⟨(some 80), .call (.func i_spec_l02Row) [(.tmp 74), (.tmp 79)], none⟩,
    ⟨(some 81), .op (.bin .add (.tmp 80) (.const (Value.string ⟨#[10]⟩))), none⟩,
    ⟨(some 82), .op (.bin .add (.tmp 73) (.tmp 81)), none⟩,
    ⟨(some 3), .op (.mv (.tmp 82)), none⟩]) (.kill [5, 73, 74, 75, 76, 77, 78, 79, 80, 81, 82]))))))))
  (.post (.reg [⟨(some 24), .op (.mv (.tmp 4)), none⟩,
    ⟨(some 25), .op (.bin .add (.tmp 24) (.const (Value.int .i64 1))), none⟩,
    ⟨(some 4), .op (.mv (.tmp 25)), none⟩]) (.kill [24, 25]))))
def lo_spec_CheckerText_1 : AC := (.loop lb_spec_CheckerText_1)
def ac_spec_CheckerText : AC := (.seq (.post (.reg [⟨(some 1), .op (.box true (.tmp 0)), none⟩,
    ⟨(some 2), .op (.mv (.const (Value.string ⟨#[]⟩))), none⟩]) (.kill [0, 2]))
  (.seq (.seq (.post (.reg [⟨(some 7), .call (.func i_spec_l02Ok) [(.tmp 1)], none⟩,
    ⟨(some 8), .op (.un .not (.tmp 7)), none⟩]) (.kill [7]))
  (.cond (.tmp 8) (.ghost (.kill [1, 8]) (.seq (.reg [⟨(some 2), .op (.mv (.const (Value.string ⟨#[]⟩))), none⟩])
  .ret))
  (.ghost (.kill [8]) .skip)))
  (.seq (.post (.reg [⟨(some 9), .op (.faddr (.tmp 1) 2), none⟩,
    ⟨(some 10), .op (.load 1 false (.tmp 9)), none⟩,
    ⟨(some 11), .op (.len false (.tmp 10)), none⟩,
    ⟨(some 12), .op (.faddr (.tmp 1) 0), none⟩,
    ⟨(some 13), .op (.load 1 false (.tmp 12)), none⟩,
    ⟨(some 14), .op (.faddr (.tmp 1) 1), none⟩,
    ⟨(some 15), .op (.load 1 false (.tmp 14)), none⟩,
    ⟨(some 16), .op (.lits true 1 3 (Value.int .i64 0) [(0, (.tmp 11)), (1, (.tmp 13)), (2, (.tmp 15))]), none⟩,
    ⟨(some 17), .call (.func i_spec_l02Row) [(.const (Value.string ⟨#[99, 104, 101, 99, 107, 101, 114]⟩)), (.tmp 16)], none⟩,
    ⟨(some 18), .op (.bin .add (.tmp 17) (.const (Value.string ⟨#[10]⟩))), none⟩,
    ⟨(some 3), .op (.mv (.tmp 18)), none⟩]) (.kill [9, 10, 11, 12, 13, 14, 15, 16, 17, 18]))
  (.seq (.seq (.reg [⟨(some 4), .op (.mv (.const (Value.int .i64 0))), none⟩])
  (.block 0 lo_spec_CheckerText_1))
  (.ghost (.kill [1, 4]) (.seq (.post (.reg [⟨(some 83), .op (.mv (.tmp 3)), none⟩,
    ⟨(some 2), .op (.mv (.tmp 83)), none⟩]) (.kill [3, 83]))
  .ret))))))
theorem cf_spec_CheckerText : chkFn Tryd.prog i_spec_CheckerText ac_spec_CheckerText [.tmp 2] 84 = true := by decide +kernel
def fa_spec_CheckerText : FnA := ⟨ac_spec_CheckerText, [.tmp 2], 84, false, true, [], .any, none⟩

/-- The checked code of laws toBoolS. -/
def lb_laws_toBoolS_0 : AC := (.post (.seq (.seq (.post (.reg [⟨(some 8), .op (.mv (.tmp 4)), none⟩,
    ⟨(some 9), .op (.mv (.tmp 0)), none⟩,
    ⟨(some 10), .op (.len false (.tmp 9)), none⟩,
    ⟨(some 11), .op (.bin .lss (.tmp 8) (.tmp 10)), none⟩]) (.kill [8, 9, 10]))
  (.cond (.tmp 11) (.ghost (.kill [11]) .skip)
  (.ghost (.kill [0, 4, 11]) (.exit 0))))
  (.seq (.block 1 (.post (.reg [⟨(some 14), .op (.mv (.tmp 3)), none⟩,
    ⟨(some 15), .op (.mv (.tmp 4)), none⟩,
    ⟨(some 16), .op (.mv (.tmp 0)), none⟩,
    ⟨(some 17), .op (.mv (.tmp 4)), none⟩,
    ⟨(some 18), .op (.iaddrS (.tmp 16) (.tmp 17) 1), none⟩,
    ⟨(some 19), .op (.load 1 false (.tmp 18)), none⟩,
    ⟨(some 20), .op (.iaddrS (.tmp 14) (.tmp 15) 1), none⟩,
    ⟨none, .op (.store 1 (.tmp 20) (.tmp 19)), none⟩]) (.kill [14, 15, 16, 17, 18, 19, 20])))
  (.post (.reg [⟨(some 12), .op (.mv (.tmp 4)), none⟩,
    ⟨(some 13), .op (.bin .add (.tmp 12) (.const (Value.int .i64 1))), none⟩,
    ⟨(some 4), .op (.mv (.tmp 13)), none⟩]) (.kill [12, 13])))) .nv)
def lo_laws_toBoolS_0 : AC := (.loop lb_laws_toBoolS_0)
def ac_laws_toBoolS : AC := (.seq (.post (.reg [⟨(some 2), .op (.mv (.const (Value.slice none 0 0))), none⟩]) (.kill [2]))
  (.seq (.post (.reg [⟨(some 5), .op (.mv (.tmp 0)), none⟩,
    ⟨(some 6), .op (.len false (.tmp 5)), none⟩,
    ⟨(some 7), .op (.make (.tmp 6) (.tmp 6) 1 1 (Value.bool false)), none⟩,
    ⟨(some 3), .op (.mv (.tmp 7)), none⟩]) (.kill [5, 6, 7]))
  (.seq (.seq (.reg [⟨(some 4), .op (.mv (.const (Value.int .i64 0))), none⟩])
  (.post (.block 0 (.ghost .nv lo_laws_toBoolS_0)) .nv))
  (.ghost (.kill [0, 4]) (.seq (.post (.reg [⟨(some 21), .op (.mv (.tmp 3)), none⟩,
    ⟨(some 2), .op (.mv (.tmp 21)), none⟩]) (.kill [3, 21]))
  .ret)))))
theorem cf_laws_toBoolS : chkFn Tryd.prog i_laws_toBoolS ac_laws_toBoolS [.tmp 2] 22 = true := by decide +kernel
def fa_laws_toBoolS : FnA := ⟨ac_laws_toBoolS, [.tmp 2], 22, false, true, [], .any, none⟩

/-- The checked code of laws toPush. -/
def ac_laws_toPush : AC := (.seq (.post (.reg [⟨(some 1), .op (.box true (.tmp 0)), none⟩,
    ⟨(some 2), .op (.alloc (Value.agg #[Value.int .i64 0, Value.int .i64 0])), none⟩]) (.kill [0]))
  (.seq (.reg [⟨(some 3), .op (.alloc (Value.agg #[Value.int .i64 0, Value.int .i64 0])), none⟩])
  (.seq (.post (.reg [⟨(some 4), .op (.faddr (.tmp 1) 0), none⟩,
    ⟨(some 5), .op (.load 1 false (.tmp 4)), none⟩,
    ⟨(some 6), .op (.faddr (.tmp 3) 0), none⟩,
    ⟨none, .op (.store 1 (.tmp 6) (.tmp 5)), none⟩]) (.kill [4, 5, 6]))
  (.seq (.post (.reg [⟨(some 7), .op (.faddr (.tmp 1) 1), none⟩,
    ⟨(some 8), .op (.load 1 false (.tmp 7)), none⟩,
    ⟨(some 9), .op (.faddr (.tmp 3) 1), none⟩,
    ⟨none, .op (.store 1 (.tmp 9) (.tmp 8)), none⟩]) (.kill [1, 7, 8, 9]))
  (.seq (.post (.reg [⟨(some 10), .op (.load 2 true (.tmp 3)), none⟩,
    ⟨none, .op (.store 2 (.tmp 2) (.tmp 10)), none⟩]) (.kill [3, 10]))
  .ret)))))
theorem cf_laws_toPush : chkFn Tryd.prog i_laws_toPush ac_laws_toPush [.cell 2 2 true] 11 = true := by decide +kernel
def fa_laws_toPush : FnA := ⟨ac_laws_toPush, [.cell 2 2 true], 11, false, true, [], .any, none⟩

/-- The checked code of laws toPushS. -/
def lb_laws_toPushS_0 : AC := (.post (.seq (.seq (.post (.reg [⟨(some 8), .op (.mv (.tmp 4)), none⟩,
    ⟨(some 9), .op (.mv (.tmp 0)), none⟩,
    ⟨(some 10), .op (.len false (.tmp 9)), none⟩,
    ⟨(some 11), .op (.bin .lss (.tmp 8) (.tmp 10)), none⟩]) (.kill [8, 9, 10]))
  (.cond (.tmp 11) (.ghost (.kill [11]) .skip)
  (.ghost (.kill [0, 4, 11]) (.exit 0))))
  (.seq (.block 1 (.post (.reg [⟨(some 14), .op (.mv (.tmp 3)), none⟩,
    ⟨(some 15), .op (.mv (.tmp 4)), none⟩,
    ⟨(some 16), .op (.mv (.tmp 0)), none⟩,
    ⟨(some 17), .op (.mv (.tmp 4)), none⟩,
    ⟨(some 18), .op (.iaddrS (.tmp 16) (.tmp 17) 2), none⟩,
    ⟨(some 19), .op (.load 2 true (.tmp 18)), none⟩,
    ⟨(some 20), .call (.func i_laws_toPush) [(.tmp 19)], none⟩,
    ⟨(some 21), .op (.iaddrS (.tmp 14) (.tmp 15) 2), none⟩,
    ⟨none, .op (.store 2 (.tmp 21) (.tmp 20)), none⟩]) (.kill [14, 15, 16, 17, 18, 19, 20, 21])))
  (.post (.reg [⟨(some 12), .op (.mv (.tmp 4)), none⟩,
    ⟨(some 13), .op (.bin .add (.tmp 12) (.const (Value.int .i64 1))), none⟩,
    ⟨(some 4), .op (.mv (.tmp 13)), none⟩]) (.kill [12, 13])))) .nv)
def lo_laws_toPushS_0 : AC := (.loop lb_laws_toPushS_0)
def ac_laws_toPushS : AC := (.seq (.post (.reg [⟨(some 2), .op (.mv (.const (Value.slice none 0 0))), none⟩]) (.kill [2]))
  (.seq (.post (.reg [⟨(some 5), .op (.mv (.tmp 0)), none⟩,
    ⟨(some 6), .op (.len false (.tmp 5)), none⟩,
    ⟨(some 7), .op (.make (.tmp 6) (.tmp 6) 2 16 (Value.agg #[Value.int .i64 0, Value.int .i64 0])), none⟩,
    ⟨(some 3), .op (.mv (.tmp 7)), none⟩]) (.kill [5, 6, 7]))
  (.seq (.seq (.reg [⟨(some 4), .op (.mv (.const (Value.int .i64 0))), none⟩])
  (.post (.block 0 (.ghost .nv lo_laws_toPushS_0)) .nv))
  (.ghost (.kill [0, 4]) (.seq (.post (.reg [⟨(some 22), .op (.mv (.tmp 3)), none⟩,
    ⟨(some 2), .op (.mv (.tmp 22)), none⟩]) (.kill [3, 22]))
  .ret)))))
theorem cf_laws_toPushS : chkFn Tryd.prog i_laws_toPushS ac_laws_toPushS [.tmp 2] 23 = true := by decide +kernel
def fa_laws_toPushS : FnA := ⟨ac_laws_toPushS, [.tmp 2], 23, false, true, [], .any, none⟩

/-- The checked code of laws toPushSS. -/
def lb_laws_toPushSS_0 : AC := (.post (.seq (.seq (.post (.reg [⟨(some 8), .op (.mv (.tmp 4)), none⟩,
    ⟨(some 9), .op (.mv (.tmp 0)), none⟩,
    ⟨(some 10), .op (.len false (.tmp 9)), none⟩,
    ⟨(some 11), .op (.bin .lss (.tmp 8) (.tmp 10)), none⟩]) (.kill [8, 9, 10]))
  (.cond (.tmp 11) (.ghost (.kill [11]) .skip)
  (.ghost (.kill [0, 4, 11]) (.exit 0))))
  (.seq (.block 1 (.post (.reg [⟨(some 14), .op (.mv (.tmp 3)), none⟩,
    ⟨(some 15), .op (.mv (.tmp 4)), none⟩,
    ⟨(some 16), .op (.mv (.tmp 0)), none⟩,
    ⟨(some 17), .op (.mv (.tmp 4)), none⟩,
    ⟨(some 18), .op (.iaddrS (.tmp 16) (.tmp 17) 1), none⟩,
    ⟨(some 19), .op (.load 1 false (.tmp 18)), none⟩,
    ⟨(some 20), .call (.func i_laws_toPushS) [(.tmp 19)], none⟩,
    ⟨(some 21), .op (.iaddrS (.tmp 14) (.tmp 15) 1), none⟩,
    ⟨none, .op (.store 1 (.tmp 21) (.tmp 20)), none⟩]) (.kill [14, 15, 16, 17, 18, 19, 20, 21])))
  (.post (.reg [⟨(some 12), .op (.mv (.tmp 4)), none⟩,
    ⟨(some 13), .op (.bin .add (.tmp 12) (.const (Value.int .i64 1))), none⟩,
    ⟨(some 4), .op (.mv (.tmp 13)), none⟩]) (.kill [12, 13])))) .nv)
def lo_laws_toPushSS_0 : AC := (.loop lb_laws_toPushSS_0)
def ac_laws_toPushSS : AC := (.seq (.post (.reg [⟨(some 2), .op (.mv (.const (Value.slice none 0 0))), none⟩]) (.kill [2]))
  (.seq (.post (.reg [⟨(some 5), .op (.mv (.tmp 0)), none⟩,
    ⟨(some 6), .op (.len false (.tmp 5)), none⟩,
    ⟨(some 7), .op (.make (.tmp 6) (.tmp 6) 1 24 (Value.slice none 0 0)), none⟩,
    ⟨(some 3), .op (.mv (.tmp 7)), none⟩]) (.kill [5, 6, 7]))
  (.seq (.seq (.reg [⟨(some 4), .op (.mv (.const (Value.int .i64 0))), none⟩])
  (.post (.block 0 (.ghost .nv lo_laws_toPushSS_0)) .nv))
  (.ghost (.kill [0, 4]) (.seq (.post (.reg [⟨(some 22), .op (.mv (.tmp 3)), none⟩,
    ⟨(some 2), .op (.mv (.tmp 22)), none⟩]) (.kill [3, 22]))
  .ret)))))
theorem cf_laws_toPushSS : chkFn Tryd.prog i_laws_toPushSS ac_laws_toPushSS [.tmp 2] 23 = true := by decide +kernel
def fa_laws_toPushSS : FnA := ⟨ac_laws_toPushSS, [.tmp 2], 23, false, true, [], .any, none⟩

/-- The checked code of laws toInt64S. -/
def lb_laws_toInt64S_0 : AC := (.post (.seq (.seq (.post (.reg [⟨(some 8), .op (.mv (.tmp 4)), none⟩,
    ⟨(some 9), .op (.mv (.tmp 0)), none⟩,
    ⟨(some 10), .op (.len false (.tmp 9)), none⟩,
    ⟨(some 11), .op (.bin .lss (.tmp 8) (.tmp 10)), none⟩]) (.kill [8, 9, 10]))
  (.cond (.tmp 11) (.ghost (.kill [11]) .skip)
  (.ghost (.kill [0, 4, 11]) (.exit 0))))
  (.seq (.block 1 (.post (.reg [⟨(some 14), .op (.mv (.tmp 3)), none⟩,
    ⟨(some 15), .op (.mv (.tmp 4)), none⟩,
    ⟨(some 16), .op (.mv (.tmp 0)), none⟩,
    ⟨(some 17), .op (.mv (.tmp 4)), none⟩,
    ⟨(some 18), .op (.iaddrS (.tmp 16) (.tmp 17) 1), none⟩,
    ⟨(some 19), .op (.load 1 false (.tmp 18)), none⟩,
    ⟨(some 20), .op (.iaddrS (.tmp 14) (.tmp 15) 1), none⟩,
    ⟨none, .op (.store 1 (.tmp 20) (.tmp 19)), none⟩]) (.kill [14, 15, 16, 17, 18, 19, 20])))
  (.post (.reg [⟨(some 12), .op (.mv (.tmp 4)), none⟩,
    ⟨(some 13), .op (.bin .add (.tmp 12) (.const (Value.int .i64 1))), none⟩,
    ⟨(some 4), .op (.mv (.tmp 13)), none⟩]) (.kill [12, 13])))) .nv)
def lo_laws_toInt64S_0 : AC := (.loop lb_laws_toInt64S_0)
def ac_laws_toInt64S : AC := (.seq (.post (.reg [⟨(some 2), .op (.mv (.const (Value.slice none 0 0))), none⟩]) (.kill [2]))
  (.seq (.post (.reg [⟨(some 5), .op (.mv (.tmp 0)), none⟩,
    ⟨(some 6), .op (.len false (.tmp 5)), none⟩,
    ⟨(some 7), .op (.make (.tmp 6) (.tmp 6) 1 8 (Value.int .i64 0)), none⟩,
    ⟨(some 3), .op (.mv (.tmp 7)), none⟩]) (.kill [5, 6, 7]))
  (.seq (.seq (.reg [⟨(some 4), .op (.mv (.const (Value.int .i64 0))), none⟩])
  (.post (.block 0 (.ghost .nv lo_laws_toInt64S_0)) .nv))
  (.ghost (.kill [0, 4]) (.seq (.post (.reg [⟨(some 21), .op (.mv (.tmp 3)), none⟩,
    ⟨(some 2), .op (.mv (.tmp 21)), none⟩]) (.kill [3, 21]))
  .ret)))))
theorem cf_laws_toInt64S : chkFn Tryd.prog i_laws_toInt64S ac_laws_toInt64S [.tmp 2] 22 = true := by decide +kernel
def fa_laws_toInt64S : FnA := ⟨ac_laws_toInt64S, [.tmp 2], 22, false, true, [], .any, none⟩

/-- The checked code of laws toInt64SS. -/
def lb_laws_toInt64SS_0 : AC := (.post (.seq (.seq (.post (.reg [⟨(some 8), .op (.mv (.tmp 4)), none⟩,
    ⟨(some 9), .op (.mv (.tmp 0)), none⟩,
    ⟨(some 10), .op (.len false (.tmp 9)), none⟩,
    ⟨(some 11), .op (.bin .lss (.tmp 8) (.tmp 10)), none⟩]) (.kill [8, 9, 10]))
  (.cond (.tmp 11) (.ghost (.kill [11]) .skip)
  (.ghost (.kill [0, 4, 11]) (.exit 0))))
  (.seq (.block 1 (.post (.reg [⟨(some 14), .op (.mv (.tmp 3)), none⟩,
    ⟨(some 15), .op (.mv (.tmp 4)), none⟩,
    ⟨(some 16), .op (.mv (.tmp 0)), none⟩,
    ⟨(some 17), .op (.mv (.tmp 4)), none⟩,
    ⟨(some 18), .op (.iaddrS (.tmp 16) (.tmp 17) 1), none⟩,
    ⟨(some 19), .op (.load 1 false (.tmp 18)), none⟩,
    ⟨(some 20), .call (.func i_laws_toInt64S) [(.tmp 19)], none⟩,
    ⟨(some 21), .op (.iaddrS (.tmp 14) (.tmp 15) 1), none⟩,
    ⟨none, .op (.store 1 (.tmp 21) (.tmp 20)), none⟩]) (.kill [14, 15, 16, 17, 18, 19, 20, 21])))
  (.post (.reg [⟨(some 12), .op (.mv (.tmp 4)), none⟩,
    ⟨(some 13), .op (.bin .add (.tmp 12) (.const (Value.int .i64 1))), none⟩,
    ⟨(some 4), .op (.mv (.tmp 13)), none⟩]) (.kill [12, 13])))) .nv)
def lo_laws_toInt64SS_0 : AC := (.loop lb_laws_toInt64SS_0)
def ac_laws_toInt64SS : AC := (.seq (.post (.reg [⟨(some 2), .op (.mv (.const (Value.slice none 0 0))), none⟩]) (.kill [2]))
  (.seq (.post (.reg [⟨(some 5), .op (.mv (.tmp 0)), none⟩,
    ⟨(some 6), .op (.len false (.tmp 5)), none⟩,
    ⟨(some 7), .op (.make (.tmp 6) (.tmp 6) 1 24 (Value.slice none 0 0)), none⟩,
    ⟨(some 3), .op (.mv (.tmp 7)), none⟩]) (.kill [5, 6, 7]))
  (.seq (.seq (.reg [⟨(some 4), .op (.mv (.const (Value.int .i64 0))), none⟩])
  (.post (.block 0 (.ghost .nv lo_laws_toInt64SS_0)) .nv))
  (.ghost (.kill [0, 4]) (.seq (.post (.reg [⟨(some 22), .op (.mv (.tmp 3)), none⟩,
    ⟨(some 2), .op (.mv (.tmp 22)), none⟩]) (.kill [3, 22]))
  .ret)))))
theorem cf_laws_toInt64SS : chkFn Tryd.prog i_laws_toInt64SS ac_laws_toInt64SS [.tmp 2] 23 = true := by decide +kernel
def fa_laws_toInt64SS : FnA := ⟨ac_laws_toInt64SS, [.tmp 2], 23, false, true, [], .any, none⟩

/-- The checked code of laws toInt64SSS. -/
def lb_laws_toInt64SSS_0 : AC := (.post (.seq (.seq (.post (.reg [⟨(some 8), .op (.mv (.tmp 4)), none⟩,
    ⟨(some 9), .op (.mv (.tmp 0)), none⟩,
    ⟨(some 10), .op (.len false (.tmp 9)), none⟩,
    ⟨(some 11), .op (.bin .lss (.tmp 8) (.tmp 10)), none⟩]) (.kill [8, 9, 10]))
  (.cond (.tmp 11) (.ghost (.kill [11]) .skip)
  (.ghost (.kill [0, 4, 11]) (.exit 0))))
  (.seq (.block 1 (.post (.reg [⟨(some 14), .op (.mv (.tmp 3)), none⟩,
    ⟨(some 15), .op (.mv (.tmp 4)), none⟩,
    ⟨(some 16), .op (.mv (.tmp 0)), none⟩,
    ⟨(some 17), .op (.mv (.tmp 4)), none⟩,
    ⟨(some 18), .op (.iaddrS (.tmp 16) (.tmp 17) 1), none⟩,
    ⟨(some 19), .op (.load 1 false (.tmp 18)), none⟩,
    ⟨(some 20), .call (.func i_laws_toInt64SS) [(.tmp 19)], none⟩,
    ⟨(some 21), .op (.iaddrS (.tmp 14) (.tmp 15) 1), none⟩,
    ⟨none, .op (.store 1 (.tmp 21) (.tmp 20)), none⟩]) (.kill [14, 15, 16, 17, 18, 19, 20, 21])))
  (.post (.reg [⟨(some 12), .op (.mv (.tmp 4)), none⟩,
    ⟨(some 13), .op (.bin .add (.tmp 12) (.const (Value.int .i64 1))), none⟩,
    ⟨(some 4), .op (.mv (.tmp 13)), none⟩]) (.kill [12, 13])))) .nv)
def lo_laws_toInt64SSS_0 : AC := (.loop lb_laws_toInt64SSS_0)
def ac_laws_toInt64SSS : AC := (.seq (.post (.reg [⟨(some 2), .op (.mv (.const (Value.slice none 0 0))), none⟩]) (.kill [2]))
  (.seq (.post (.reg [⟨(some 5), .op (.mv (.tmp 0)), none⟩,
    ⟨(some 6), .op (.len false (.tmp 5)), none⟩,
    ⟨(some 7), .op (.make (.tmp 6) (.tmp 6) 1 24 (Value.slice none 0 0)), none⟩,
    ⟨(some 3), .op (.mv (.tmp 7)), none⟩]) (.kill [5, 6, 7]))
  (.seq (.seq (.reg [⟨(some 4), .op (.mv (.const (Value.int .i64 0))), none⟩])
  (.post (.block 0 (.ghost .nv lo_laws_toInt64SSS_0)) .nv))
  (.ghost (.kill [0, 4]) (.seq (.post (.reg [⟨(some 22), .op (.mv (.tmp 3)), none⟩,
    ⟨(some 2), .op (.mv (.tmp 22)), none⟩]) (.kill [3, 22]))
  .ret)))))
theorem cf_laws_toInt64SSS : chkFn Tryd.prog i_laws_toInt64SSS ac_laws_toInt64SSS [.tmp 2] 23 = true := by decide +kernel
def fa_laws_toInt64SSS : FnA := ⟨ac_laws_toInt64SSS, [.tmp 2], 23, false, true, [], .any, none⟩

/-- The checked code of laws toChecker. -/
def ac_laws_toChecker : AC := (.seq (.post (.reg [⟨(some 1), .op (.box true (.tmp 0)), none⟩,
    ⟨(some 2), .op (.alloc (Value.agg #[Value.int .i64 0, Value.int .i64 0, Value.slice none 0 0, Value.slice none 0 0, Value.slice none 0 0, Value.slice none 0 0])), none⟩]) (.kill [0]))
  (.seq (.reg [⟨(some 3), .op (.alloc (Value.agg #[Value.int .i64 0, Value.int .i64 0, Value.slice none 0 0, Value.slice none 0 0, Value.slice none 0 0, Value.slice none 0 0])), none⟩])
  (.seq (.post (.reg [⟨(some 4), .op (.faddr (.tmp 1) 0), none⟩,
    ⟨(some 5), .op (.load 1 false (.tmp 4)), none⟩,
    ⟨(some 6), .op (.faddr (.tmp 3) 0), none⟩,
    ⟨none, .op (.store 1 (.tmp 6) (.tmp 5)), none⟩]) (.kill [4, 5, 6]))
  (.seq (.post (.reg [⟨(some 7), .op (.faddr (.tmp 1) 1), none⟩,
    ⟨(some 8), .op (.load 1 false (.tmp 7)), none⟩,
    ⟨(some 9), .op (.faddr (.tmp 3) 1), none⟩,
    ⟨none, .op (.store 1 (.tmp 9) (.tmp 8)), none⟩]) (.kill [7, 8, 9]))
  (.seq (.post (.reg [⟨(some 10), .op (.faddr (.tmp 1) 2), none⟩,
    ⟨(some 11), .op (.load 1 false (.tmp 10)), none⟩,
    ⟨(some 12), .call (.func i_laws_toBoolS) [(.tmp 11)], none⟩,
    ⟨(some 13), .op (.faddr (.tmp 3) 2), none⟩,
    ⟨none, .op (.store 1 (.tmp 13) (.tmp 12)), none⟩]) (.kill [10, 11, 12, 13]))
  (.seq (.post (.reg [⟨(some 14), .op (.faddr (.tmp 1) 3), none⟩,
    ⟨(some 15), .op (.load 1 false (.tmp 14)), none⟩,
    ⟨(some 16), .call (.func i_laws_toPushSS) [(.tmp 15)], none⟩,
    ⟨(some 17), .op (.faddr (.tmp 3) 3), none⟩,
    ⟨none, .op (.store 1 (.tmp 17) (.tmp 16)), none⟩]) (.kill [14, 15, 16, 17]))
  (.seq (.post (.reg [⟨(some 18), .op (.faddr (.tmp 1) 4), none⟩,
    ⟨(some 19), .op (.load 1 false (.tmp 18)), none⟩,
    ⟨(some 20), .call (.func i_laws_toInt64SSS) [(.tmp 19)], none⟩,
    ⟨(some 21), .op (.faddr (.tmp 3) 4), none⟩,
    ⟨none, .op (.store 1 (.tmp 21) (.tmp 20)), none⟩]) (.kill [18, 19, 20, 21]))
  (.seq (.post (.reg [⟨(some 22), .op (.faddr (.tmp 1) 5), none⟩,
    ⟨(some 23), .op (.load 1 false (.tmp 22)), none⟩,
    ⟨(some 24), .call (.func i_laws_toInt64SS) [(.tmp 23)], none⟩,
    ⟨(some 25), .op (.faddr (.tmp 3) 5), none⟩,
    ⟨none, .op (.store 1 (.tmp 25) (.tmp 24)), none⟩]) (.kill [1, 22, 23, 24, 25]))
  (.seq (.post (.reg [⟨(some 26), .op (.load 6 true (.tmp 3)), none⟩,
    ⟨none, .op (.store 6 (.tmp 2) (.tmp 26)), none⟩]) (.kill [3, 26]))
  .ret)))))))))
theorem cf_laws_toChecker : chkFn Tryd.prog i_laws_toChecker ac_laws_toChecker [.cell 2 6 true] 27 = true := by decide +kernel
def fa_laws_toChecker : FnA := ⟨ac_laws_toChecker, [.cell 2 6 true], 27, false, true, [], .any, none⟩

/-- The checked code of strconv small. -/
def ac_internal_strconv_small : AC := (.seq (.post (.reg [⟨(some 2), .op (.mv (.const (Value.string ⟨#[]⟩))), none⟩]) (.kill [2]))
  (.seq (.seq (.post (.reg [⟨(some 3), .op (.mv (.tmp 0)), none⟩,
    ⟨(some 4), .op (.bin .lss (.tmp 3) (.const (Value.int .i64 10))), none⟩]) (.kill [3]))
  (.cond (.tmp 4) (.ghost (.kill [4]) (.seq (.post (.reg [⟨(some 5), .op (.mv (.tmp 0)), none⟩,
    ⟨(some 6), .op (.mv (.tmp 0)), none⟩,
    ⟨(some 7), .op (.bin .add (.tmp 6) (.const (Value.int .i64 1))), none⟩,
    ⟨(some 8), .op (.slcStr (.const (Value.string ⟨#[48, 49, 50, 51, 52, 53, 54, 55, 56, 57, 97, 98, 99, 100, 101, 102, 103, 104, 105, 106, 107, 108, 109, 110, 111, 112, 113, 114, 115, 116, 117, 118, 119, 120, 121, 122]⟩)) (some (.tmp 5)) (some (.tmp 7))), none⟩,
    ⟨(some 2), .op (.mv (.tmp 8)), none⟩]) (.kill [0, 5, 6, 7, 8]))
  .ret))
  (.ghost (.kill [4]) .skip)))
  (.seq (.post (.reg [⟨(some 9), .op (.mv (.tmp 0)), none⟩,
    ⟨(some 10), .op (.bin .mul (.tmp 9) (.const (Value.int .i64 2))), none⟩,
    ⟨(some 11), .op (.mv (.tmp 0)), none⟩,
    ⟨(some 12), .op (.bin .mul (.tmp 11) (.const (Value.int .i64 2))), none⟩,
    ⟨(some 13), .op (.bin .add (.tmp 12) (.const (Value.int .i64 2))), none⟩,
    ⟨(some 14), .op (.slcStr (.const (Value.string ⟨#[48, 48, 48, 49, 48, 50, 48, 51, 48, 52, 48, 53, 48, 54, 48, 55, 48, 56, 48, 57, 49, 48, 49, 49, 49, 50, 49, 51, 49, 52, 49, 53, 49, 54, 49, 55, 49, 56, 49, 57, 50, 48, 50, 49, 50, 50, 50, 51, 50, 52, 50, 53, 50, 54, 50, 55, 50, 56, 50, 57, 51, 48, 51, 49, 51, 50, 51, 51, 51, 52, 51, 53, 51, 54, 51, 55, 51, 56, 51, 57, 52, 48, 52, 49, 52, 50, 52, 51, 52, 52, 52, 53, 52, 54, 52, 55, 52, 56, 52, 57, 53, 48, 53, 49, 53, 50, 53, 51, 53, 52, 53, 53, 53, 54, 53, 55, 53, 56, 53, 57, 54, 48, 54, 49, 54, 50, 54, 51, 54, 52, 54, 53, 54, 54, 54, 55, 54, 56, 54, 57, 55, 48, 55, 49, 55, 50, 55, 51, 55, 52, 55, 53, 55, 54, 55, 55, 55, 56, 55, 57, 56, 48, 56, 49, 56, 50, 56, 51, 56, 52, 56, 53, 56, 54, 56, 55, 56, 56, 56, 57, 57, 48, 57, 49, 57, 50, 57, 51, 57, 52, 57, 53, 57, 54, 57, 55, 57, 56, 57, 57]⟩)) (some (.tmp 10)) (some (.tmp 13))), none⟩,
    ⟨(some 2), .op (.mv (.tmp 14)), none⟩]) (.kill [0, 9, 10, 11, 12, 13, 14]))
  .ret)))
theorem cf_internal_strconv_small : chkFn Tryd.prog i_internal_strconv_small ac_internal_strconv_small [.tmp 2] 15 = true := by decide +kernel
def fa_internal_strconv_small : FnA := ⟨ac_internal_strconv_small, [.tmp 2], 15, false, true, [], .any, none⟩

/-- The checked code of strconv formatBase10. -/
def lb_internal_strconv_formatBase10_0 : AC := (.post (.seq (.seq (.post (.reg [⟨(some 19), .op (.mv (.tmp 4)), none⟩,
    ⟨(some 20), .op (.bin .geq (.tmp 19) (.const (Value.int .i64 8))), none⟩]) (.kill [19]))
  (.cond (.tmp 20) (.ghost (.kill [20]) .skip)
  (.ghost (.kill [20]) (.exit 0))))
  (.block 1 (.seq (.post (.reg [⟨(some 21), .op (.mv (.tmp 1)), none⟩,
    ⟨(some 22), .op (.bin .rem (.tmp 21) (.const (Value.int .u64 100000000))), none⟩,
    ⟨(some 23), .op (.conv .u32 (.tmp 22)), none⟩,
    ⟨(some 5), .op (.mv (.tmp 23)), none⟩]) (.kill [21, 22, 23]))
  (.seq (.post (.reg [⟨(some 24), .op (.mv (.tmp 1)), none⟩,
    ⟨(some 25), .op (.bin .quo (.tmp 24) (.const (Value.int .u64 100000000))), none⟩,
    ⟨(some 1), .op (.mv (.tmp 25)), none⟩]) (.kill [24, 25]))
  (.seq (.post (.reg [⟨(some 26), .op (.mv (.tmp 5)), none⟩,
    ⟨(some 27), .op (.bin .quo (.tmp 26) (.const (Value.int .u32 10000))), none⟩,
    ⟨(some 28), .op (.mv (.tmp 5)), none⟩,
    ⟨(some 29), .op (.bin .rem (.tmp 28) (.const (Value.int .u32 10000))), none⟩,
    ⟨(some 6), .op (.mv (.tmp 27)), none⟩,
    ⟨(some 7), .op (.mv (.tmp 29)), none⟩]) (.kill [5, 26, 27, 28, 29]))
  (.seq (.post (.reg [⟨(some 30), .op (.mv (.tmp 7)), none⟩,
    ⟨(some 31), .op (.bin .quo (.tmp 30) (.const (Value.int .u32 100))), none⟩,
    ⟨(some 32), .op (.bin .mul (.tmp 31) (.const (Value.int .u32 2))), none⟩,
    ⟨(some 33), .op (.mv (.tmp 7)), none⟩,
    ⟨(some 34), .op (.bin .rem (.tmp 33) (.const (Value.int .u32 100))), none⟩,
    ⟨(some 35), .op (.bin .mul (.tmp 34) (.const (Value.int .u32 2))), none⟩,
    ⟨(some 8), .op (.mv (.tmp 32)), none⟩,
    ⟨(some 9), .op (.mv (.tmp 35)), none⟩]) (.kill [7, 30, 31, 32, 33, 34, 35]))
  (.seq (.post (.reg [⟨(some 36), .op (.mv (.tmp 6)), none⟩,
    ⟨(some 37), .op (.bin .quo (.tmp 36) (.const (Value.int .u32 100))), none⟩,
    ⟨(some 38), .op (.bin .mul (.tmp 37) (.const (Value.int .u32 2))), none⟩,
    ⟨(some 39), .op (.mv (.tmp 6)), none⟩,
    ⟨(some 40), .op (.bin .rem (.tmp 39) (.const (Value.int .u32 100))), none⟩,
    ⟨(some 41), .op (.bin .mul (.tmp 40) (.const (Value.int .u32 2))), none⟩,
    ⟨(some 10), .op (.mv (.tmp 38)), none⟩,
    ⟨(some 11), .op (.mv (.tmp 41)), none⟩]) (.kill [6, 36, 37, 38, 39, 40, 41]))
  (.seq (.post (.draw [⟨0, ⟨(some 42), .op (.mv (.tmp 0)), none⟩, []⟩,
    ⟨1, ⟨(some 43), .op (.mv (.tmp 4)), none⟩, []⟩,
    ⟨2, ⟨(some 44), .op (.bin .sub (.tmp 43) (.const (Value.int .i64 1))), none⟩, []⟩,
    ⟨3, ⟨(some 45), .op (.mv (.tmp 0)), none⟩, []⟩,
    ⟨4, ⟨(some 46), .op (.mv (.tmp 4)), none⟩, []⟩,
    ⟨5, ⟨(some 47), .op (.bin .sub (.tmp 46) (.const (Value.int .i64 2))), none⟩, []⟩,
    ⟨6, ⟨(some 48), .op (.mv (.tmp 9)), none⟩, []⟩,
    ⟨7, ⟨(some 49), .op (.bin .add (.tmp 48) (.const (Value.int .u32 1))), none⟩, []⟩,
    ⟨8, ⟨(some 50), .op (.idxStr (.const (Value.string ⟨#[48, 48, 48, 49, 48, 50, 48, 51, 48, 52, 48, 53, 48, 54, 48, 55, 48, 56, 48, 57, 49, 48, 49, 49, 49, 50, 49, 51, 49, 52, 49, 53, 49, 54, 49, 55, 49, 56, 49, 57, 50, 48, 50, 49, 50, 50, 50, 51, 50, 52, 50, 53, 50, 54, 50, 55, 50, 56, 50, 57, 51, 48, 51, 49, 51, 50, 51, 51, 51, 52, 51, 53, 51, 54, 51, 55, 51, 56, 51, 57, 52, 48, 52, 49, 52, 50, 52, 51, 52, 52, 52, 53, 52, 54, 52, 55, 52, 56, 52, 57, 53, 48, 53, 49, 53, 50, 53, 51, 53, 52, 53, 53, 53, 54, 53, 55, 53, 56, 53, 57, 54, 48, 54, 49, 54, 50, 54, 51, 54, 52, 54, 53, 54, 54, 54, 55, 54, 56, 54, 57, 55, 48, 55, 49, 55, 50, 55, 51, 55, 52, 55, 53, 55, 54, 55, 55, 55, 56, 55, 57, 56, 48, 56, 49, 56, 50, 56, 51, 56, 52, 56, 53, 56, 54, 56, 55, 56, 56, 56, 57, 57, 48, 57, 49, 57, 50, 57, 51, 57, 52, 57, 53, 57, 54, 57, 55, 57, 56, 57, 57]⟩)) (.tmp 49)), none⟩, []⟩,
    ⟨9, ⟨(some 51), .op (.mv (.tmp 9)), none⟩, []⟩,
    ⟨10, ⟨(some 52), .op (.idxStr (.const (Value.string ⟨#[48, 48, 48, 49, 48, 50, 48, 51, 48, 52, 48, 53, 48, 54, 48, 55, 48, 56, 48, 57, 49, 48, 49, 49, 49, 50, 49, 51, 49, 52, 49, 53, 49, 54, 49, 55, 49, 56, 49, 57, 50, 48, 50, 49, 50, 50, 50, 51, 50, 52, 50, 53, 50, 54, 50, 55, 50, 56, 50, 57, 51, 48, 51, 49, 51, 50, 51, 51, 51, 52, 51, 53, 51, 54, 51, 55, 51, 56, 51, 57, 52, 48, 52, 49, 52, 50, 52, 51, 52, 52, 52, 53, 52, 54, 52, 55, 52, 56, 52, 57, 53, 48, 53, 49, 53, 50, 53, 51, 53, 52, 53, 53, 53, 54, 53, 55, 53, 56, 53, 57, 54, 48, 54, 49, 54, 50, 54, 51, 54, 52, 54, 53, 54, 54, 54, 55, 54, 56, 54, 57, 55, 48, 55, 49, 55, 50, 55, 51, 55, 52, 55, 53, 55, 54, 55, 55, 55, 56, 55, 57, 56, 48, 56, 49, 56, 50, 56, 51, 56, 52, 56, 53, 56, 54, 56, 55, 56, 56, 56, 57, 57, 48, 57, 49, 57, 50, 57, 51, 57, 52, 57, 53, 57, 54, 57, 55, 57, 56, 57, 57]⟩)) (.tmp 51)), none⟩, []⟩,
    ⟨11, ⟨(some 53), .op (.iaddrS (.tmp 42) (.tmp 44) 1), none⟩, []⟩,
    ⟨12, ⟨none, .op (.store 1 (.tmp 53) (.tmp 50)), none⟩, []⟩,
    ⟨13, ⟨(some 54), .op (.iaddrS (.tmp 45) (.tmp 47) 1), none⟩, []⟩,
    ⟨14, ⟨none, .op (.store 1 (.tmp 54) (.tmp 52)), none⟩, []⟩]
    [0, 0, 2, 0, 0, 16, 0, 64, 192, 0, 512, 455, 2503, 8191, 16383]) (.kill [9, 42, 43, 44, 45, 46, 47, 48, 49, 50, 51, 52, 53, 54]))
  (.seq (.post (.draw [⟨0, ⟨(some 55), .op (.mv (.tmp 0)), none⟩, []⟩,
    ⟨1, ⟨(some 56), .op (.mv (.tmp 4)), none⟩, []⟩,
    ⟨2, ⟨(some 57), .op (.bin .sub (.tmp 56) (.const (Value.int .i64 3))), none⟩, []⟩,
    ⟨3, ⟨(some 58), .op (.mv (.tmp 0)), none⟩, []⟩,
    ⟨4, ⟨(some 59), .op (.mv (.tmp 4)), none⟩, []⟩,
    ⟨5, ⟨(some 60), .op (.bin .sub (.tmp 59) (.const (Value.int .i64 4))), none⟩, []⟩,
    ⟨6, ⟨(some 61), .op (.mv (.tmp 8)), none⟩, []⟩,
    ⟨7, ⟨(some 62), .op (.bin .add (.tmp 61) (.const (Value.int .u32 1))), none⟩, []⟩,
    ⟨8, ⟨(some 63), .op (.idxStr (.const (Value.string ⟨#[48, 48, 48, 49, 48, 50, 48, 51, 48, 52, 48, 53, 48, 54, 48, 55, 48, 56, 48, 57, 49, 48, 49, 49, 49, 50, 49, 51, 49, 52, 49, 53, 49, 54, 49, 55, 49, 56, 49, 57, 50, 48, 50, 49, 50, 50, 50, 51, 50, 52, 50, 53, 50, 54, 50, 55, 50, 56, 50, 57, 51, 48, 51, 49, 51, 50, 51, 51, 51, 52, 51, 53, 51, 54, 51, 55, 51, 56, 51, 57, 52, 48, 52, 49, 52, 50, 52, 51, 52, 52, 52, 53, 52, 54, 52, 55, 52, 56, 52, 57, 53, 48, 53, 49, 53, 50, 53, 51, 53, 52, 53, 53, 53, 54, 53, 55, 53, 56, 53, 57, 54, 48, 54, 49, 54, 50, 54, 51, 54, 52, 54, 53, 54, 54, 54, 55, 54, 56, 54, 57, 55, 48, 55, 49, 55, 50, 55, 51, 55, 52, 55, 53, 55, 54, 55, 55, 55, 56, 55, 57, 56, 48, 56, 49, 56, 50, 56, 51, 56, 52, 56, 53, 56, 54, 56, 55, 56, 56, 56, 57, 57, 48, 57, 49, 57, 50, 57, 51, 57, 52, 57, 53, 57, 54, 57, 55, 57, 56, 57, 57]⟩)) (.tmp 62)), none⟩, []⟩,
    ⟨9, ⟨(some 64), .op (.mv (.tmp 8)), none⟩, []⟩,
    ⟨10, ⟨(some 65), .op (.idxStr (.const (Value.string ⟨#[48, 48, 48, 49, 48, 50, 48, 51, 48, 52, 48, 53, 48, 54, 48, 55, 48, 56, 48, 57, 49, 48, 49, 49, 49, 50, 49, 51, 49, 52, 49, 53, 49, 54, 49, 55, 49, 56, 49, 57, 50, 48, 50, 49, 50, 50, 50, 51, 50, 52, 50, 53, 50, 54, 50, 55, 50, 56, 50, 57, 51, 48, 51, 49, 51, 50, 51, 51, 51, 52, 51, 53, 51, 54, 51, 55, 51, 56, 51, 57, 52, 48, 52, 49, 52, 50, 52, 51, 52, 52, 52, 53, 52, 54, 52, 55, 52, 56, 52, 57, 53, 48, 53, 49, 53, 50, 53, 51, 53, 52, 53, 53, 53, 54, 53, 55, 53, 56, 53, 57, 54, 48, 54, 49, 54, 50, 54, 51, 54, 52, 54, 53, 54, 54, 54, 55, 54, 56, 54, 57, 55, 48, 55, 49, 55, 50, 55, 51, 55, 52, 55, 53, 55, 54, 55, 55, 55, 56, 55, 57, 56, 48, 56, 49, 56, 50, 56, 51, 56, 52, 56, 53, 56, 54, 56, 55, 56, 56, 56, 57, 57, 48, 57, 49, 57, 50, 57, 51, 57, 52, 57, 53, 57, 54, 57, 55, 57, 56, 57, 57]⟩)) (.tmp 64)), none⟩, []⟩,
    ⟨11, ⟨(some 66), .op (.iaddrS (.tmp 55) (.tmp 57) 1), none⟩, []⟩,
    ⟨12, ⟨none, .op (.store 1 (.tmp 66) (.tmp 63)), none⟩, []⟩,
    ⟨13, ⟨(some 67), .op (.iaddrS (.tmp 58) (.tmp 60) 1), none⟩, []⟩,
    ⟨14, ⟨none, .op (.store 1 (.tmp 67) (.tmp 65)), none⟩, []⟩]
    [0, 0, 2, 0, 0, 16, 0, 64, 192, 0, 512, 455, 2503, 8191, 16383]) (.kill [8, 55, 56, 57, 58, 59, 60, 61, 62, 63, 64, 65, 66, 67]))
  (.seq (.post (.draw [⟨0, ⟨(some 68), .op (.mv (.tmp 0)), none⟩, []⟩,
    ⟨1, ⟨(some 69), .op (.mv (.tmp 4)), none⟩, []⟩,
    ⟨2, ⟨(some 70), .op (.bin .sub (.tmp 69) (.const (Value.int .i64 5))), none⟩, []⟩,
    ⟨3, ⟨(some 71), .op (.mv (.tmp 0)), none⟩, []⟩,
    ⟨4, ⟨(some 72), .op (.mv (.tmp 4)), none⟩, []⟩,
    ⟨5, ⟨(some 73), .op (.bin .sub (.tmp 72) (.const (Value.int .i64 6))), none⟩, []⟩,
    ⟨6, ⟨(some 74), .op (.mv (.tmp 11)), none⟩, []⟩,
    ⟨7, ⟨(some 75), .op (.bin .add (.tmp 74) (.const (Value.int .u32 1))), none⟩, []⟩,
    ⟨8, ⟨(some 76), .op (.idxStr (.const (Value.string ⟨#[48, 48, 48, 49, 48, 50, 48, 51, 48, 52, 48, 53, 48, 54, 48, 55, 48, 56, 48, 57, 49, 48, 49, 49, 49, 50, 49, 51, 49, 52, 49, 53, 49, 54, 49, 55, 49, 56, 49, 57, 50, 48, 50, 49, 50, 50, 50, 51, 50, 52, 50, 53, 50, 54, 50, 55, 50, 56, 50, 57, 51, 48, 51, 49, 51, 50, 51, 51, 51, 52, 51, 53, 51, 54, 51, 55, 51, 56, 51, 57, 52, 48, 52, 49, 52, 50, 52, 51, 52, 52, 52, 53, 52, 54, 52, 55, 52, 56, 52, 57, 53, 48, 53, 49, 53, 50, 53, 51, 53, 52, 53, 53, 53, 54, 53, 55, 53, 56, 53, 57, 54, 48, 54, 49, 54, 50, 54, 51, 54, 52, 54, 53, 54, 54, 54, 55, 54, 56, 54, 57, 55, 48, 55, 49, 55, 50, 55, 51, 55, 52, 55, 53, 55, 54, 55, 55, 55, 56, 55, 57, 56, 48, 56, 49, 56, 50, 56, 51, 56, 52, 56, 53, 56, 54, 56, 55, 56, 56, 56, 57, 57, 48, 57, 49, 57, 50, 57, 51, 57, 52, 57, 53, 57, 54, 57, 55, 57, 56, 57, 57]⟩)) (.tmp 75)), none⟩, []⟩,
    ⟨9, ⟨(some 77), .op (.mv (.tmp 11)), none⟩, []⟩,
    ⟨10, ⟨(some 78), .op (.idxStr (.const (Value.string ⟨#[48, 48, 48, 49, 48, 50, 48, 51, 48, 52, 48, 53, 48, 54, 48, 55, 48, 56, 48, 57, 49, 48, 49, 49, 49, 50, 49, 51, 49, 52, 49, 53, 49, 54, 49, 55, 49, 56, 49, 57, 50, 48, 50, 49, 50, 50, 50, 51, 50, 52, 50, 53, 50, 54, 50, 55, 50, 56, 50, 57, 51, 48, 51, 49, 51, 50, 51, 51, 51, 52, 51, 53, 51, 54, 51, 55, 51, 56, 51, 57, 52, 48, 52, 49, 52, 50, 52, 51, 52, 52, 52, 53, 52, 54, 52, 55, 52, 56, 52, 57, 53, 48, 53, 49, 53, 50, 53, 51, 53, 52, 53, 53, 53, 54, 53, 55, 53, 56, 53, 57, 54, 48, 54, 49, 54, 50, 54, 51, 54, 52, 54, 53, 54, 54, 54, 55, 54, 56, 54, 57, 55, 48, 55, 49, 55, 50, 55, 51, 55, 52, 55, 53, 55, 54, 55, 55, 55, 56, 55, 57, 56, 48, 56, 49, 56, 50, 56, 51, 56, 52, 56, 53, 56, 54, 56, 55, 56, 56, 56, 57, 57, 48, 57, 49, 57, 50, 57, 51, 57, 52, 57, 53, 57, 54, 57, 55, 57, 56, 57, 57]⟩)) (.tmp 77)), none⟩, []⟩,
    ⟨11, ⟨(some 79), .op (.iaddrS (.tmp 68) (.tmp 70) 1), none⟩, []⟩,
    ⟨12, ⟨none, .op (.store 1 (.tmp 79) (.tmp 76)), none⟩, []⟩,
    ⟨13, ⟨(some 80), .op (.iaddrS (.tmp 71) (.tmp 73) 1), none⟩, []⟩,
    ⟨14, ⟨none, .op (.store 1 (.tmp 80) (.tmp 78)), none⟩, []⟩]
    [0, 0, 2, 0, 0, 16, 0, 64, 192, 0, 512, 455, 2503, 8191, 16383]) (.kill [11, 68, 69, 70, 71, 72, 73, 74, 75, 76, 77, 78, 79, 80]))
  (.seq (.post (.draw [⟨0, ⟨(some 81), .op (.mv (.tmp 0)), none⟩, []⟩,
    ⟨1, ⟨(some 82), .op (.mv (.tmp 4)), none⟩, []⟩,
    ⟨2, ⟨(some 83), .op (.bin .sub (.tmp 82) (.const (Value.int .i64 7))), none⟩, []⟩,
    ⟨3, ⟨(some 84), .op (.mv (.tmp 0)), none⟩, []⟩,
    ⟨4, ⟨(some 85), .op (.mv (.tmp 4)), none⟩, []⟩,
    ⟨5, ⟨(some 86), .op (.bin .sub (.tmp 85) (.const (Value.int .i64 8))), none⟩, []⟩,
    ⟨6, ⟨(some 87), .op (.mv (.tmp 10)), none⟩, []⟩,
    ⟨7, ⟨(some 88), .op (.bin .add (.tmp 87) (.const (Value.int .u32 1))), none⟩, []⟩,
    ⟨8, ⟨(some 89), .op (.idxStr (.const (Value.string ⟨#[48, 48, 48, 49, 48, 50, 48, 51, 48, 52, 48, 53, 48, 54, 48, 55, 48, 56, 48, 57, 49, 48, 49, 49, 49, 50, 49, 51, 49, 52, 49, 53, 49, 54, 49, 55, 49, 56, 49, 57, 50, 48, 50, 49, 50, 50, 50, 51, 50, 52, 50, 53, 50, 54, 50, 55, 50, 56, 50, 57, 51, 48, 51, 49, 51, 50, 51, 51, 51, 52, 51, 53, 51, 54, 51, 55, 51, 56, 51, 57, 52, 48, 52, 49, 52, 50, 52, 51, 52, 52, 52, 53, 52, 54, 52, 55, 52, 56, 52, 57, 53, 48, 53, 49, 53, 50, 53, 51, 53, 52, 53, 53, 53, 54, 53, 55, 53, 56, 53, 57, 54, 48, 54, 49, 54, 50, 54, 51, 54, 52, 54, 53, 54, 54, 54, 55, 54, 56, 54, 57, 55, 48, 55, 49, 55, 50, 55, 51, 55, 52, 55, 53, 55, 54, 55, 55, 55, 56, 55, 57, 56, 48, 56, 49, 56, 50, 56, 51, 56, 52, 56, 53, 56, 54, 56, 55, 56, 56, 56, 57, 57, 48, 57, 49, 57, 50, 57, 51, 57, 52, 57, 53, 57, 54, 57, 55, 57, 56, 57, 57]⟩)) (.tmp 88)), none⟩, []⟩,
    ⟨9, ⟨(some 90), .op (.mv (.tmp 10)), none⟩, []⟩,
    ⟨10, ⟨(some 91), .op (.idxStr (.const (Value.string ⟨#[48, 48, 48, 49, 48, 50, 48, 51, 48, 52, 48, 53, 48, 54, 48, 55, 48, 56, 48, 57, 49, 48, 49, 49, 49, 50, 49, 51, 49, 52, 49, 53, 49, 54, 49, 55, 49, 56, 49, 57, 50, 48, 50, 49, 50, 50, 50, 51, 50, 52, 50, 53, 50, 54, 50, 55, 50, 56, 50, 57, 51, 48, 51, 49, 51, 50, 51, 51, 51, 52, 51, 53, 51, 54, 51, 55, 51, 56, 51, 57, 52, 48, 52, 49, 52, 50, 52, 51, 52, 52, 52, 53, 52, 54, 52, 55, 52, 56, 52, 57, 53, 48, 53, 49, 53, 50, 53, 51, 53, 52, 53, 53, 53, 54, 53, 55, 53, 56, 53, 57, 54, 48, 54, 49, 54, 50, 54, 51, 54, 52, 54, 53, 54, 54, 54, 55, 54, 56, 54, 57, 55, 48, 55, 49, 55, 50, 55, 51, 55, 52, 55, 53, 55, 54, 55, 55, 55, 56, 55, 57, 56, 48, 56, 49, 56, 50, 56, 51, 56, 52, 56, 53, 56, 54, 56, 55, 56, 56, 56, 57, 57, 48, 57, 49, 57, 50, 57, 51, 57, 52, 57, 53, 57, 54, 57, 55, 57, 56, 57, 57]⟩)) (.tmp 90)), none⟩, []⟩,
    ⟨11, ⟨(some 92), .op (.iaddrS (.tmp 81) (.tmp 83) 1), none⟩, []⟩,
    ⟨12, ⟨none, .op (.store 1 (.tmp 92) (.tmp 89)), none⟩, []⟩,
    ⟨13, ⟨(some 93), .op (.iaddrS (.tmp 84) (.tmp 86) 1), none⟩, []⟩,
    ⟨14, ⟨none, .op (.store 1 (.tmp 93) (.tmp 91)), none⟩, []⟩]
    [0, 0, 2, 0, 0, 16, 0, 64, 192, 0, 512, 455, 2503, 8191, 16383]) (.kill [10, 81, 82, 83, 84, 85, 86, 87, 88, 89, 90, 91, 92, 93]))
  (.post (.reg [⟨(some 94), .op (.mv (.tmp 4)), none⟩,
    ⟨(some 95), .op (.bin .sub (.tmp 94) (.const (Value.int .i64 8))), none⟩,
    ⟨(some 4), .op (.mv (.tmp 95)), none⟩]) (.kill [94, 95]))))))))))))) .nv)
def lo_internal_strconv_formatBase10_0 : AC := (.loop lb_internal_strconv_formatBase10_0)
def ac_internal_strconv_formatBase10 : AC := (.seq (.post (.reg [⟨(some 17), .op (.mv (.tmp 0)), none⟩,
    ⟨(some 18), .op (.len false (.tmp 17)), none⟩,
    ⟨(some 4), .op (.mv (.tmp 18)), none⟩]) (.kill [17, 18]))
  (.seq (.post (.block 0 (.ghost .nv lo_internal_strconv_formatBase10_0)) .nv)
  (.seq (.post (.reg [⟨(some 96), .op (.mv (.tmp 1)), none⟩,
    ⟨(some 97), .op (.conv .u32 (.tmp 96)), none⟩,
    ⟨(some 12), .op (.mv (.tmp 97)), none⟩]) (.kill [1, 96, 97]))
  (.seq (.seq (.post (.reg [⟨(some 98), .op (.mv (.tmp 4)), none⟩,
    ⟨(some 99), .op (.bin .geq (.tmp 98) (.const (Value.int .i64 4))), none⟩]) (.kill [98]))
  (.cond (.tmp 99) (.ghost (.kill [99]) (.seq (.post (.reg [⟨(some 100), .op (.mv (.tmp 12)), none⟩,
    ⟨(some 101), .op (.bin .rem (.tmp 100) (.const (Value.int .u32 10000))), none⟩,
    ⟨(some 13), .op (.mv (.tmp 101)), none⟩]) (.kill [100, 101]))
  (.seq (.post (.reg [⟨(some 102), .op (.mv (.tmp 12)), none⟩,
    ⟨(some 103), .op (.bin .quo (.tmp 102) (.const (Value.int .u32 10000))), none⟩,
    ⟨(some 12), .op (.mv (.tmp 103)), none⟩]) (.kill [102, 103]))
  (.seq (.post (.reg [⟨(some 104), .op (.mv (.tmp 13)), none⟩,
    ⟨(some 105), .op (.bin .quo (.tmp 104) (.const (Value.int .u32 100))), none⟩,
    ⟨(some 106), .op (.bin .mul (.tmp 105) (.const (Value.int .u32 2))), none⟩,
    ⟨(some 107), .op (.mv (.tmp 13)), none⟩,
    ⟨(some 108), .op (.bin .rem (.tmp 107) (.const (Value.int .u32 100))), none⟩,
    ⟨(some 109), .op (.bin .mul (.tmp 108) (.const (Value.int .u32 2))), none⟩,
    ⟨(some 14), .op (.mv (.tmp 106)), none⟩,
    ⟨(some 15), .op (.mv (.tmp 109)), none⟩]) (.kill [13, 104, 105, 106, 107, 108, 109]))
  (.seq (.post (.draw [⟨0, ⟨(some 110), .op (.mv (.tmp 0)), none⟩, []⟩,
    ⟨1, ⟨(some 111), .op (.mv (.tmp 4)), none⟩, []⟩,
    ⟨2, ⟨(some 112), .op (.bin .sub (.tmp 111) (.const (Value.int .i64 1))), none⟩, []⟩,
    ⟨3, ⟨(some 113), .op (.mv (.tmp 0)), none⟩, []⟩,
    ⟨4, ⟨(some 114), .op (.mv (.tmp 4)), none⟩, []⟩,
    ⟨5, ⟨(some 115), .op (.bin .sub (.tmp 114) (.const (Value.int .i64 2))), none⟩, []⟩,
    ⟨6, ⟨(some 116), .op (.mv (.tmp 15)), none⟩, []⟩,
    ⟨7, ⟨(some 117), .op (.bin .add (.tmp 116) (.const (Value.int .u32 1))), none⟩, []⟩,
    ⟨8, ⟨(some 118), .op (.idxStr (.const (Value.string ⟨#[48, 48, 48, 49, 48, 50, 48, 51, 48, 52, 48, 53, 48, 54, 48, 55, 48, 56, 48, 57, 49, 48, 49, 49, 49, 50, 49, 51, 49, 52, 49, 53, 49, 54, 49, 55, 49, 56, 49, 57, 50, 48, 50, 49, 50, 50, 50, 51, 50, 52, 50, 53, 50, 54, 50, 55, 50, 56, 50, 57, 51, 48, 51, 49, 51, 50, 51, 51, 51, 52, 51, 53, 51, 54, 51, 55, 51, 56, 51, 57, 52, 48, 52, 49, 52, 50, 52, 51, 52, 52, 52, 53, 52, 54, 52, 55, 52, 56, 52, 57, 53, 48, 53, 49, 53, 50, 53, 51, 53, 52, 53, 53, 53, 54, 53, 55, 53, 56, 53, 57, 54, 48, 54, 49, 54, 50, 54, 51, 54, 52, 54, 53, 54, 54, 54, 55, 54, 56, 54, 57, 55, 48, 55, 49, 55, 50, 55, 51, 55, 52, 55, 53, 55, 54, 55, 55, 55, 56, 55, 57, 56, 48, 56, 49, 56, 50, 56, 51, 56, 52, 56, 53, 56, 54, 56, 55, 56, 56, 56, 57, 57, 48, 57, 49, 57, 50, 57, 51, 57, 52, 57, 53, 57, 54, 57, 55, 57, 56, 57, 57]⟩)) (.tmp 117)), none⟩, []⟩,
    ⟨9, ⟨(some 119), .op (.mv (.tmp 15)), none⟩, []⟩,
    ⟨10, ⟨(some 120), .op (.idxStr (.const (Value.string ⟨#[48, 48, 48, 49, 48, 50, 48, 51, 48, 52, 48, 53, 48, 54, 48, 55, 48, 56, 48, 57, 49, 48, 49, 49, 49, 50, 49, 51, 49, 52, 49, 53, 49, 54, 49, 55, 49, 56, 49, 57, 50, 48, 50, 49, 50, 50, 50, 51, 50, 52, 50, 53, 50, 54, 50, 55, 50, 56, 50, 57, 51, 48, 51, 49, 51, 50, 51, 51, 51, 52, 51, 53, 51, 54, 51, 55, 51, 56, 51, 57, 52, 48, 52, 49, 52, 50, 52, 51, 52, 52, 52, 53, 52, 54, 52, 55, 52, 56, 52, 57, 53, 48, 53, 49, 53, 50, 53, 51, 53, 52, 53, 53, 53, 54, 53, 55, 53, 56, 53, 57, 54, 48, 54, 49, 54, 50, 54, 51, 54, 52, 54, 53, 54, 54, 54, 55, 54, 56, 54, 57, 55, 48, 55, 49, 55, 50, 55, 51, 55, 52, 55, 53, 55, 54, 55, 55, 55, 56, 55, 57, 56, 48, 56, 49, 56, 50, 56, 51, 56, 52, 56, 53, 56, 54, 56, 55, 56, 56, 56, 57, 57, 48, 57, 49, 57, 50, 57, 51, 57, 52, 57, 53, 57, 54, 57, 55, 57, 56, 57, 57]⟩)) (.tmp 119)), none⟩, []⟩,
    ⟨11, ⟨(some 121), .op (.iaddrS (.tmp 110) (.tmp 112) 1), none⟩, []⟩,
    ⟨12, ⟨none, .op (.store 1 (.tmp 121) (.tmp 118)), none⟩, []⟩,
    ⟨13, ⟨(some 122), .op (.iaddrS (.tmp 113) (.tmp 115) 1), none⟩, []⟩,
    ⟨14, ⟨none, .op (.store 1 (.tmp 122) (.tmp 120)), none⟩, []⟩]
    [0, 0, 2, 0, 0, 16, 0, 64, 192, 0, 512, 455, 2503, 8191, 16383]) (.kill [15, 110, 111, 112, 113, 114, 115, 116, 117, 118, 119, 120, 121, 122]))
  (.seq (.post (.draw [⟨0, ⟨(some 123), .op (.mv (.tmp 0)), none⟩, []⟩,
    ⟨1, ⟨(some 124), .op (.mv (.tmp 4)), none⟩, []⟩,
    ⟨2, ⟨(some 125), .op (.bin .sub (.tmp 124) (.const (Value.int .i64 3))), none⟩, []⟩,
    ⟨3, ⟨(some 126), .op (.mv (.tmp 0)), none⟩, []⟩,
    ⟨4, ⟨(some 127), .op (.mv (.tmp 4)), none⟩, []⟩,
    ⟨5, ⟨(some 128), .op (.bin .sub (.tmp 127) (.const (Value.int .i64 4))), none⟩, []⟩,
    ⟨6, ⟨(some 129), .op (.mv (.tmp 14)), none⟩, []⟩,
    ⟨7, ⟨(some 130), .op (.bin .add (.tmp 129) (.const (Value.int .u32 1))), none⟩, []⟩,
    ⟨8, ⟨(some 131), .op (.idxStr (.const (Value.string ⟨#[48, 48, 48, 49, 48, 50, 48, 51, 48, 52, 48, 53, 48, 54, 48, 55, 48, 56, 48, 57, 49, 48, 49, 49, 49, 50, 49, 51, 49, 52, 49, 53, 49, 54, 49, 55, 49, 56, 49, 57, 50, 48, 50, 49, 50, 50, 50, 51, 50, 52, 50, 53, 50, 54, 50, 55, 50, 56, 50, 57, 51, 48, 51, 49, 51, 50, 51, 51, 51, 52, 51, 53, 51, 54, 51, 55, 51, 56, 51, 57, 52, 48, 52, 49, 52, 50, 52, 51, 52, 52, 52, 53, 52, 54, 52, 55, 52, 56, 52, 57, 53, 48, 53, 49, 53, 50, 53, 51, 53, 52, 53, 53, 53, 54, 53, 55, 53, 56, 53, 57, 54, 48, 54, 49, 54, 50, 54, 51, 54, 52, 54, 53, 54, 54, 54, 55, 54, 56, 54, 57, 55, 48, 55, 49, 55, 50, 55, 51, 55, 52, 55, 53, 55, 54, 55, 55, 55, 56, 55, 57, 56, 48, 56, 49, 56, 50, 56, 51, 56, 52, 56, 53, 56, 54, 56, 55, 56, 56, 56, 57, 57, 48, 57, 49, 57, 50, 57, 51, 57, 52, 57, 53, 57, 54, 57, 55, 57, 56, 57, 57]⟩)) (.tmp 130)), none⟩, []⟩,
    ⟨9, ⟨(some 132), .op (.mv (.tmp 14)), none⟩, []⟩,
    ⟨10, ⟨(some 133), .op (.idxStr (.const (Value.string ⟨#[48, 48, 48, 49, 48, 50, 48, 51, 48, 52, 48, 53, 48, 54, 48, 55, 48, 56, 48, 57, 49, 48, 49, 49, 49, 50, 49, 51, 49, 52, 49, 53, 49, 54, 49, 55, 49, 56, 49, 57, 50, 48, 50, 49, 50, 50, 50, 51, 50, 52, 50, 53, 50, 54, 50, 55, 50, 56, 50, 57, 51, 48, 51, 49, 51, 50, 51, 51, 51, 52, 51, 53, 51, 54, 51, 55, 51, 56, 51, 57, 52, 48, 52, 49, 52, 50, 52, 51, 52, 52, 52, 53, 52, 54, 52, 55, 52, 56, 52, 57, 53, 48, 53, 49, 53, 50, 53, 51, 53, 52, 53, 53, 53, 54, 53, 55, 53, 56, 53, 57, 54, 48, 54, 49, 54, 50, 54, 51, 54, 52, 54, 53, 54, 54, 54, 55, 54, 56, 54, 57, 55, 48, 55, 49, 55, 50, 55, 51, 55, 52, 55, 53, 55, 54, 55, 55, 55, 56, 55, 57, 56, 48, 56, 49, 56, 50, 56, 51, 56, 52, 56, 53, 56, 54, 56, 55, 56, 56, 56, 57, 57, 48, 57, 49, 57, 50, 57, 51, 57, 52, 57, 53, 57, 54, 57, 55, 57, 56, 57, 57]⟩)) (.tmp 132)), none⟩, []⟩,
    ⟨11, ⟨(some 134), .op (.iaddrS (.tmp 123) (.tmp 125) 1), none⟩, []⟩,
    ⟨12, ⟨none, .op (.store 1 (.tmp 134) (.tmp 131)), none⟩, []⟩,
    ⟨13, ⟨(some 135), .op (.iaddrS (.tmp 126) (.tmp 128) 1), none⟩, []⟩,
    ⟨14, ⟨none, .op (.store 1 (.tmp 135) (.tmp 133)), none⟩, []⟩]
    [0, 0, 2, 0, 0, 16, 0, 64, 192, 0, 512, 455, 2503, 8191, 16383]) (.kill [14, 123, 124, 125, 126, 127, 128, 129, 130, 131, 132, 133, 134, 135]))
  (.post (.reg [⟨(some 136), .op (.mv (.tmp 4)), none⟩,
    ⟨(some 137), .op (.bin .sub (.tmp 136) (.const (Value.int .i64 4))), none⟩,
    ⟨(some 4), .op (.mv (.tmp 137)), none⟩]) (.kill [136, 137]))))))))
  (.ghost (.kill [99]) .skip)))
  (.seq (.seq (.post (.reg [⟨(some 138), .op (.mv (.tmp 4)), none⟩,
    ⟨(some 139), .op (.bin .geq (.tmp 138) (.const (Value.int .i64 2))), none⟩]) (.kill [138]))
  (.cond (.tmp 139) (.ghost (.kill [139]) (.seq (.post (.reg [⟨(some 140), .op (.mv (.tmp 12)), none⟩,
    ⟨(some 141), .op (.bin .rem (.tmp 140) (.const (Value.int .u32 100))), none⟩,
    ⟨(some 142), .op (.bin .mul (.tmp 141) (.const (Value.int .u32 2))), none⟩,
    ⟨(some 16), .op (.mv (.tmp 142)), none⟩]) (.kill [140, 141, 142]))
  (.seq (.post (.reg [⟨(some 143), .op (.mv (.tmp 12)), none⟩,
    ⟨(some 144), .op (.bin .quo (.tmp 143) (.const (Value.int .u32 100))), none⟩,
    ⟨(some 12), .op (.mv (.tmp 144)), none⟩]) (.kill [143, 144]))
  (.seq (.post (.draw [⟨0, ⟨(some 145), .op (.mv (.tmp 0)), none⟩, []⟩,
    ⟨1, ⟨(some 146), .op (.mv (.tmp 4)), none⟩, []⟩,
    ⟨2, ⟨(some 147), .op (.bin .sub (.tmp 146) (.const (Value.int .i64 1))), none⟩, []⟩,
    ⟨3, ⟨(some 148), .op (.mv (.tmp 0)), none⟩, []⟩,
    ⟨4, ⟨(some 149), .op (.mv (.tmp 4)), none⟩, []⟩,
    ⟨5, ⟨(some 150), .op (.bin .sub (.tmp 149) (.const (Value.int .i64 2))), none⟩, []⟩,
    ⟨6, ⟨(some 151), .op (.mv (.tmp 16)), none⟩, []⟩,
    ⟨7, ⟨(some 152), .op (.bin .add (.tmp 151) (.const (Value.int .u32 1))), none⟩, []⟩,
    ⟨8, ⟨(some 153), .op (.idxStr (.const (Value.string ⟨#[48, 48, 48, 49, 48, 50, 48, 51, 48, 52, 48, 53, 48, 54, 48, 55, 48, 56, 48, 57, 49, 48, 49, 49, 49, 50, 49, 51, 49, 52, 49, 53, 49, 54, 49, 55, 49, 56, 49, 57, 50, 48, 50, 49, 50, 50, 50, 51, 50, 52, 50, 53, 50, 54, 50, 55, 50, 56, 50, 57, 51, 48, 51, 49, 51, 50, 51, 51, 51, 52, 51, 53, 51, 54, 51, 55, 51, 56, 51, 57, 52, 48, 52, 49, 52, 50, 52, 51, 52, 52, 52, 53, 52, 54, 52, 55, 52, 56, 52, 57, 53, 48, 53, 49, 53, 50, 53, 51, 53, 52, 53, 53, 53, 54, 53, 55, 53, 56, 53, 57, 54, 48, 54, 49, 54, 50, 54, 51, 54, 52, 54, 53, 54, 54, 54, 55, 54, 56, 54, 57, 55, 48, 55, 49, 55, 50, 55, 51, 55, 52, 55, 53, 55, 54, 55, 55, 55, 56, 55, 57, 56, 48, 56, 49, 56, 50, 56, 51, 56, 52, 56, 53, 56, 54, 56, 55, 56, 56, 56, 57, 57, 48, 57, 49, 57, 50, 57, 51, 57, 52, 57, 53, 57, 54, 57, 55, 57, 56, 57, 57]⟩)) (.tmp 152)), none⟩, []⟩,
    ⟨9, ⟨(some 154), .op (.mv (.tmp 16)), none⟩, []⟩,
    ⟨10, ⟨(some 155), .op (.idxStr (.const (Value.string ⟨#[48, 48, 48, 49, 48, 50, 48, 51, 48, 52, 48, 53, 48, 54, 48, 55, 48, 56, 48, 57, 49, 48, 49, 49, 49, 50, 49, 51, 49, 52, 49, 53, 49, 54, 49, 55, 49, 56, 49, 57, 50, 48, 50, 49, 50, 50, 50, 51, 50, 52, 50, 53, 50, 54, 50, 55, 50, 56, 50, 57, 51, 48, 51, 49, 51, 50, 51, 51, 51, 52, 51, 53, 51, 54, 51, 55, 51, 56, 51, 57, 52, 48, 52, 49, 52, 50, 52, 51, 52, 52, 52, 53, 52, 54, 52, 55, 52, 56, 52, 57, 53, 48, 53, 49, 53, 50, 53, 51, 53, 52, 53, 53, 53, 54, 53, 55, 53, 56, 53, 57, 54, 48, 54, 49, 54, 50, 54, 51, 54, 52, 54, 53, 54, 54, 54, 55, 54, 56, 54, 57, 55, 48, 55, 49, 55, 50, 55, 51, 55, 52, 55, 53, 55, 54, 55, 55, 55, 56, 55, 57, 56, 48, 56, 49, 56, 50, 56, 51, 56, 52, 56, 53, 56, 54, 56, 55, 56, 56, 56, 57, 57, 48, 57, 49, 57, 50, 57, 51, 57, 52, 57, 53, 57, 54, 57, 55, 57, 56, 57, 57]⟩)) (.tmp 154)), none⟩, []⟩,
    ⟨11, ⟨(some 156), .op (.iaddrS (.tmp 145) (.tmp 147) 1), none⟩, []⟩,
    ⟨12, ⟨none, .op (.store 1 (.tmp 156) (.tmp 153)), none⟩, []⟩,
    ⟨13, ⟨(some 157), .op (.iaddrS (.tmp 148) (.tmp 150) 1), none⟩, []⟩,
    ⟨14, ⟨none, .op (.store 1 (.tmp 157) (.tmp 155)), none⟩, []⟩]
    [0, 0, 2, 0, 0, 16, 0, 64, 192, 0, 512, 455, 2503, 8191, 16383]) (.kill [16, 145, 146, 147, 148, 149, 150, 151, 152, 153, 154, 155, 156, 157]))
  (.post (.reg [⟨(some 158), .op (.mv (.tmp 4)), none⟩,
    ⟨(some 159), .op (.bin .sub (.tmp 158) (.const (Value.int .i64 2))), none⟩,
    ⟨(some 4), .op (.mv (.tmp 159)), none⟩]) (.kill [158, 159]))))))
  (.ghost (.kill [139]) .skip)))
  (.seq (.post (.reg [⟨(some 160), .op (.mv (.tmp 4)), none⟩,
    ⟨(some 161), .op (.bin .gtr (.tmp 160) (.const (Value.int .i64 0))), none⟩]) (.kill [4, 160]))
  (.cond (.tmp 161) (.ghost (.kill [161]) (.post (.reg [⟨(some 162), .op (.mv (.tmp 0)), none⟩,
    ⟨(some 163), .op (.mv (.tmp 12)), none⟩,
    ⟨(some 164), .op (.bin .add (.const (Value.int .u32 48)) (.tmp 163)), none⟩,
    ⟨(some 165), .op (.conv .u8 (.tmp 164)), none⟩,
    ⟨(some 166), .op (.iaddrS (.tmp 162) (.const (Value.int .i64 0)) 1), none⟩,
    ⟨none, .op (.store 1 (.tmp 166) (.tmp 165)), none⟩]) (.kill [0, 12, 162, 163, 164, 165, 166])))
  (.ghost (.kill [0, 12, 161]) .skip))))))))
theorem cf_internal_strconv_formatBase10 : chkFn Tryd.prog i_internal_strconv_formatBase10 ac_internal_strconv_formatBase10 [] 167 = true := by decide +kernel
def fa_internal_strconv_formatBase10 : FnA := ⟨ac_internal_strconv_formatBase10, [], 167, false, true, [], .any, none⟩

/-- The checked code of strconv FormatInt. -/
def ac_internal_strconv_FormatInt : AC := (.seq (.post (.reg [⟨(some 4), .op (.mv (.const (Value.string ⟨#[]⟩))), none⟩]) (.kill [4]))
  (.seq (.seq (.post (.reg [⟨(some 10), .op (.mv (.tmp 1)), none⟩,
    ⟨(some 11), .op (.bin .eql (.tmp 10) (.const (Value.int .i64 10))), none⟩]) (.kill [10]))
  (.cond (.tmp 11) (.ghost (.kill [1, 11]) (.seq (.seq (.post (.reg [⟨(some 12), .op (.mv (.tmp 0)), none⟩,
    ⟨(some 13), .op (.bin .leq (.const (Value.int .i64 0)) (.tmp 12)), none⟩,
    ⟨(some 14), .op (.mv (.tmp 13)), none⟩,
    ⟨(some 15), .op (.mv (.tmp 0)), some (14, true)⟩,
    ⟨(some 16), .op (.bin .lss (.tmp 15) (.const (Value.int .i64 100))), some (14, true)⟩,
    ⟨(some 17), .op (.pick (.tmp 14) (.tmp 16) (.const (Value.bool false))), none⟩]) (.kill [12, 13, 14, 15, 16]))
  (.cond (.tmp 17) (.ghost (.kill [17]) (.seq (.post (.reg [⟨(some 18), .op (.mv (.tmp 0)), none⟩,
    ⟨(some 19), .call (.func i_internal_strconv_small) [(.tmp 18)], none⟩,
    ⟨(some 4), .op (.mv (.tmp 19)), none⟩]) (.kill [0, 18, 19]))
  .ret))
  (.ghost (.kill [17]) .skip)))
  (.seq (.reg [⟨(some 5), .op (.alloc (Value.agg #[Value.int .u8 0, Value.int .u8 0, Value.int .u8 0, Value.int .u8 0, Value.int .u8 0, Value.int .u8 0, Value.int .u8 0, Value.int .u8 0, Value.int .u8 0, Value.int .u8 0, Value.int .u8 0, Value.int .u8 0, Value.int .u8 0, Value.int .u8 0, Value.int .u8 0, Value.int .u8 0, Value.int .u8 0, Value.int .u8 0, Value.int .u8 0, Value.int .u8 0, Value.int .u8 0, Value.int .u8 0, Value.int .u8 0, Value.int .u8 0])), none⟩])
  (.seq (.post (.reg [⟨(some 20), .op (.mv (.tmp 0)), none⟩,
    ⟨(some 21), .op (.conv .u64 (.tmp 20)), none⟩,
    ⟨(some 6), .op (.mv (.tmp 21)), none⟩]) (.kill [20, 21]))
  (.seq (.seq (.post (.reg [⟨(some 22), .op (.mv (.tmp 0)), none⟩,
    ⟨(some 23), .op (.bin .lss (.tmp 22) (.const (Value.int .i64 0))), none⟩]) (.kill [22]))
  (.cond (.tmp 23) (.ghost (.kill [23]) (.post (.reg [⟨(some 24), .op (.mv (.tmp 6)), none⟩,
    ⟨(some 25), .op (.un .neg (.tmp 24)), none⟩,
    ⟨(some 6), .op (.mv (.tmp 25)), none⟩]) (.kill [24, 25])))
  (.ghost (.kill [23]) .skip)))
  (.seq (.post (.reg [⟨(some 26), .op (.mv (.tmp 6)), none⟩,
    ⟨(some 27), .call (.func i_internal_strconv_numDigits) [(.tmp 26)], none⟩,
    ⟨(some 7), .op (.mv (.tmp 27)), none⟩]) (.kill [26, 27]))
  (.seq (.post (.reg [⟨(some 28), .op (.mv (.tmp 7)), none⟩,
    ⟨(some 29), .op (.bin .add (.const (Value.int .i64 1)) (.tmp 28)), none⟩,
    ⟨(some 30), .op (.bad), none⟩,
    ⟨(some 31), .op (.mv (.tmp 6)), none⟩,
    ⟨(some 32), .call (.func i_internal_strconv_formatBase10) [(.tmp 30), (.tmp 31)], none⟩]) (.kill [6, 28, 29, 30, 31, 32]))
  (.seq (.seq (.post (.reg [⟨(some 33), .op (.mv (.tmp 0)), none⟩,
    ⟨(some 34), .op (.bin .lss (.tmp 33) (.const (Value.int .i64 0))), none⟩]) (.kill [0, 33]))
  (.cond (.tmp 34) (.ghost (.kill [34]) (.seq (.post (.reg [⟨(some 35), .op (.iaddrA (.tmp 5) (.const (Value.int .i64 0)) 24 1), none⟩,
    ⟨none, .op (.store 1 (.tmp 35) (.const (Value.int .u8 45))), none⟩]) (.kill [35]))
  (.seq (.post (.reg [⟨(some 36), .op (.mv (.tmp 7)), none⟩,
    ⟨(some 37), .op (.bin .add (.const (Value.int .i64 1)) (.tmp 36)), none⟩,
    ⟨(some 38), .op (.bad), none⟩,
    ⟨(some 39), .op (.b2s (.tmp 38)), none⟩,
    ⟨(some 4), .op (.mv (.tmp 39)), none⟩]) (.kill [5, 7, 36, 37, 38, 39]))
  .ret)))
  (.ghost (.kill [34]) .skip)))
  (.seq (.post (.reg [⟨(some 40), .op (.mv (.tmp 7)), none⟩,
    ⟨(some 41), .op (.bin .add (.const (Value.int .i64 1)) (.tmp 40)), none⟩,
    ⟨(some 42), .op (.bad), none⟩,
    ⟨(some 43), .op (.b2s (.tmp 42)), none⟩,
    ⟨(some 4), .op (.mv (.tmp 43)), none⟩]) (.kill [5, 7, 40, 41, 42, 43]))
  .ret)))))))))
  (.ghost (.kill [11]) .skip)))
  (.seq (.post (.reg [⟨(some 45), .op (.mv (.tmp 0)), none⟩,
    ⟨(some 46), .op (.conv .u64 (.tmp 45)), none⟩,
    ⟨(some 47), .op (.mv (.tmp 1)), none⟩,
    ⟨(some 48), .op (.mv (.tmp 0)), none⟩,
    ⟨(some 49), .op (.bin .lss (.tmp 48) (.const (Value.int .i64 0))), none⟩,
    ⟨(some 50), .call (.func i_internal_strconv_formatBits) [(.const (Value.slice none 0 0)), (.tmp 46), (.tmp 47), (.tmp 49), (.const (Value.bool false))], none⟩,
    ⟨(some 44), .op (.mv (.tmp 50)), none⟩,
    ⟨(some 51), .op (.ext (.tmp 44) 0), none⟩,
    ⟨(some 52), .op (.ext (.tmp 44) 1), none⟩,
    ⟨(some 8), .op (.mv (.tmp 51)), none⟩,
    ⟨(some 9), .op (.mv (.tmp 52)), none⟩]) (.kill [0, 1, 8, 44, 45, 46, 47, 48, 49, 50, 51, 52]))
  (.seq (.post (.reg [⟨(some 53), .op (.mv (.tmp 9)), none⟩,
    ⟨(some 4), .op (.mv (.tmp 53)), none⟩]) (.kill [9, 53]))
  .ret))))
theorem cf_internal_strconv_FormatInt : chkFn Tryd.prog i_internal_strconv_FormatInt ac_internal_strconv_FormatInt [.tmp 4] 54 = true := by decide +kernel
def fa_internal_strconv_FormatInt : FnA := ⟨ac_internal_strconv_FormatInt, [.tmp 4], 54, false, true, [], .any, none⟩

/-- The checked code of strconv FormatInt. -/
def ac_strconv_FormatInt : AC := (.seq (.post (.reg [⟨(some 4), .op (.mv (.const (Value.string ⟨#[]⟩))), none⟩]) (.kill [4]))
  (.seq (.post (.reg [⟨(some 5), .op (.mv (.tmp 0)), none⟩,
    ⟨(some 6), .op (.mv (.tmp 1)), none⟩,
    ⟨(some 7), .call (.func i_internal_strconv_FormatInt) [(.tmp 5), (.tmp 6)], none⟩,
    ⟨(some 4), .op (.mv (.tmp 7)), none⟩]) (.kill [0, 1, 5, 6, 7]))
  .ret))
theorem cf_strconv_FormatInt : chkFn Tryd.prog i_strconv_FormatInt ac_strconv_FormatInt [.tmp 4] 8 = true := by decide +kernel
def fa_strconv_FormatInt : FnA := ⟨ac_strconv_FormatInt, [.tmp 4], 8, false, true, [], .any, none⟩

/-- The checked code of impl decimal. -/
def ac_impl_decimal : AC := (.seq (.post (.reg [⟨(some 2), .op (.mv (.const (Value.string ⟨#[]⟩))), none⟩]) (.kill [2]))
  (.seq (.post (.reg [⟨(some 3), .op (.mv (.tmp 0)), none⟩,
    ⟨(some 4), .call (.func i_strconv_FormatInt) [(.tmp 3), (.const (Value.int .i64 10))], none⟩,
    ⟨(some 2), .op (.mv (.tmp 4)), none⟩]) (.kill [0, 3, 4]))
  .ret))
theorem cf_impl_decimal : chkFn Tryd.prog i_impl_decimal ac_impl_decimal [.tmp 2] 5 = true := by decide +kernel
def fa_impl_decimal : FnA := ⟨ac_impl_decimal, [.tmp 2], 5, false, true, [], .any, none⟩

/-- The checked code of   strings Builder  copyCheck. -/
def ac_P_strings_Builder_copyCheck : AC := (.seq (.post (.reg [⟨(some 2), .op (.mv (.tmp 0)), none⟩,
    ⟨(some 3), .op (.nilc (.tmp 2)), none⟩,
    ⟨(some 4), .op (.faddr (.tmp 3) 0), none⟩,
    ⟨(some 5), .op (.load 1 false (.tmp 4)), none⟩,
    ⟨(some 6), .op (.eqnil false false .p (.tmp 5)), none⟩]) (.kill [2, 3, 4, 5]))
  (.cond (.tmp 6) (.ghost (.kill [6]) (.post (.reg [⟨(some 7), .op (.mv (.tmp 0)), none⟩,
    ⟨(some 8), .op (.mv (.tmp 0)), none⟩,
    ⟨(some 9), .op (.bld .uns [(.tmp 8)]), none⟩,
    ⟨(some 10), .op (.bld (.noesc i_internal_abi_NoEscape) [(.tmp 9)]), none⟩,
    ⟨(some 11), .op (.bld (.funs 121) [(.tmp 10)]), none⟩,
    ⟨(some 12), .op (.nilc (.tmp 7)), none⟩,
    ⟨(some 13), .op (.faddr (.tmp 12) 0), none⟩,
    ⟨none, .op (.store 1 (.tmp 13) (.tmp 11)), none⟩]) (.kill [0, 7, 8, 9, 10, 11, 12, 13])))
  (.ghost (.kill [6]) (.seq (.post (.reg [⟨(some 14), .op (.mv (.tmp 0)), none⟩,
    ⟨(some 15), .op (.nilc (.tmp 14)), none⟩,
    ⟨(some 16), .op (.faddr (.tmp 15) 0), none⟩,
    ⟨(some 17), .op (.load 1 false (.tmp 16)), none⟩,
    ⟨(some 18), .op (.mv (.tmp 0)), none⟩,
    ⟨(some 19), .op (.bld (.eqp true) [(.tmp 17), (.tmp 18)]), none⟩]) (.kill [0, 14, 15, 16, 17, 18]))
  (.cond (.tmp 19) (.ghost (.kill [19]) (.reg [⟨none, .op .bad, none⟩]))
  (.ghost (.kill [19]) .skip))))))
theorem cf_P_strings_Builder_copyCheck : chkFn Tryd.prog i_P_strings_Builder_copyCheck ac_P_strings_Builder_copyCheck [] 20 = true := by decide +kernel
def fa_P_strings_Builder_copyCheck : FnA := ⟨ac_P_strings_Builder_copyCheck, [], 20, true, false, [], .any, none⟩

/-- The checked code of   strings Builder  WriteString. -/
def ac_P_strings_Builder_WriteString : AC := (.seq (.post (.reg [⟨(some 4), .op (.mv (.const (Value.int .i64 0))), none⟩,
    ⟨(some 5), .op (.mv (.const Value.nilIface)), none⟩]) (.kill [4, 5]))
  (.seq (.post (.reg [⟨(some 6), .op (.mv (.tmp 0)), none⟩,
    ⟨(some 7), .call (.func i_P_strings_Builder_copyCheck) [(.tmp 6)], none⟩]) (.kill [6, 7]))
  (.seq (.post (.reg [⟨(some 8), .op (.mv (.tmp 0)), none⟩,
    ⟨(some 9), .op (.mv (.tmp 0)), none⟩,
    ⟨(some 10), .op (.nilc (.tmp 9)), none⟩,
    ⟨(some 11), .op (.faddr (.tmp 10) 1), none⟩,
    ⟨(some 12), .op (.load 1 false (.tmp 11)), none⟩,
    ⟨(some 13), .op (.mv (.tmp 1)), none⟩,
    ⟨(some 14), .op (.bld (.appn 5 1 1) [(.tmp 12), (.tmp 13)]), none⟩,
    ⟨(some 15), .op (.nilc (.tmp 8)), none⟩,
    ⟨(some 16), .op (.faddr (.tmp 15) 1), none⟩,
    ⟨none, .op (.store 1 (.tmp 16) (.tmp 14)), none⟩]) (.kill [0, 8, 9, 10, 11, 12, 13, 14, 15, 16]))
  (.seq (.post (.reg [⟨(some 17), .op (.mv (.tmp 1)), none⟩,
    ⟨(some 18), .op (.len true (.tmp 17)), none⟩,
    ⟨(some 4), .op (.mv (.tmp 18)), none⟩,
    ⟨(some 5), .op (.mv (.const Value.nilIface)), none⟩]) (.kill [1, 17, 18]))
  .ret))))
theorem cf_P_strings_Builder_WriteString : chkFn Tryd.prog i_P_strings_Builder_WriteString ac_P_strings_Builder_WriteString [.tmp 4, .tmp 5] 19 = true := by decide +kernel
def fa_P_strings_Builder_WriteString : FnA := ⟨ac_P_strings_Builder_WriteString, [.tmp 4, .tmp 5], 19, true, false, [], .any, none⟩

/-- The checked code of   strings Builder  String. -/
def ac_P_strings_Builder_String : AC := (.seq (.post (.reg [⟨(some 2), .op (.mv (.const (Value.string ⟨#[]⟩))), none⟩]) (.kill [2]))
  (.seq (.post (.draw [⟨0, ⟨(some 3), .op (.mv (.tmp 0)), none⟩, []⟩,
    ⟨1, ⟨(some 4), .op (.nilc (.tmp 3)), none⟩, []⟩,
    ⟨2, ⟨(some 5), .op (.faddr (.tmp 4) 1), none⟩, []⟩,
    ⟨3, ⟨(some 6), .op (.load 1 false (.tmp 5)), none⟩, []⟩,
    ⟨4, ⟨(some 7), .op (.bld .sdata [(.tmp 6)]), none⟩, []⟩,
    ⟨5, ⟨(some 8), .op (.mv (.tmp 0)), none⟩, []⟩,
    ⟨6, ⟨(some 9), .op (.nilc (.tmp 8)), none⟩, []⟩,
    ⟨7, ⟨(some 10), .op (.faddr (.tmp 9) 1), none⟩, []⟩,
    ⟨8, ⟨(some 11), .op (.load 1 false (.tmp 10)), none⟩, []⟩,
    ⟨9, ⟨(some 12), .op (.len false (.tmp 11)), none⟩, []⟩,
    ⟨10, ⟨(some 13), .op (.bld (.ustr 5) [(.tmp 7), (.tmp 12)]), none⟩, []⟩,
    ⟨11, ⟨(some 2), .op (.mv (.tmp 13)), none⟩, []⟩]
    [0, 1, 3, 7, 15, 0, 32, 96, 224, 480, 1023, 2047]) (.kill [0, 3, 4, 5, 6, 7, 8, 9, 10, 11, 12, 13]))
  .ret))
theorem cf_P_strings_Builder_String : chkFn Tryd.prog i_P_strings_Builder_String ac_P_strings_Builder_String [.tmp 2] 14 = true := by decide +kernel
def fa_P_strings_Builder_String : FnA := ⟨ac_P_strings_Builder_String, [.tmp 2], 14, true, false, [], .any, none⟩

/-- The checked code of impl words. -/
def lb_impl_words_0 : AC := (.post (.seq (.reg [⟨(some 14), .op (.bin .lss (.tmp 13) (.tmp 12)), none⟩])
  (.seq (.cond (.tmp 14) (.ghost (.kill [14]) .skip)
  (.ghost (.kill [11, 12, 13, 14]) (.exit 0)))
  (.seq (.block 1 (.seq (.post (.reg [⟨(some 15), .op (.iaddrS (.tmp 11) (.tmp 13) 1), none⟩,
    ⟨(some 16), .op (.load 1 false (.tmp 15)), none⟩,
    ⟨(some 7), .op (.mv (.tmp 16)), none⟩]) (.kill [15, 16]))
  (.post (.reg [⟨(some 17), .op (.mv (.tmp 7)), none⟩,
    ⟨(some 18), .call (.func i_impl_decimal) [(.tmp 17)], none⟩,
    ⟨(some 19), .op (.bin .add (.const (Value.string ⟨#[32]⟩)) (.tmp 18)), none⟩,
    ⟨(some 20), .call (.func i_P_strings_Builder_WriteString) [(.tmp 5), (.tmp 19)], none⟩]) (.kill [7, 17, 18, 19, 20]))))
  (.post (.reg [⟨(some 21), .op (.bin .add (.tmp 13) (.const (Value.int .i64 1))), none⟩,
    ⟨(some 13), .op (.mv (.tmp 21)), none⟩]) (.kill [21]))))) .nv)
def lo_impl_words_0 : AC := (.loop lb_impl_words_0)
def ac_impl_words : AC := (.seq (.post (.reg [⟨(some 4), .op (.mv (.const (Value.string ⟨#[]⟩))), none⟩]) (.kill [4]))
  (.seq (.post (.reg [⟨(some 8), .op (.build [Value.pointer none, Value.slice none 0 0] []), none⟩,
    ⟨(some 5), .op (.bld (.allocT 121 (Value.agg #[Value.pointer none, Value.slice none 0 0])) []), none⟩,
    ⟨none, .op (.store 2 (.tmp 5) (.tmp 8)), none⟩]) (.kill [8]))
  (.seq (.post (.reg [⟨(some 9), .op (.mv (.tmp 0)), none⟩,
    ⟨(some 10), .call (.func i_P_strings_Builder_WriteString) [(.tmp 5), (.tmp 9)], none⟩]) (.kill [0, 9, 10]))
  (.seq (.seq (.post (.reg [⟨(some 11), .op (.mv (.tmp 1)), none⟩,
    ⟨(some 12), .op (.len false (.tmp 11)), none⟩,
    ⟨(some 13), .op (.mv (.const (Value.int .i64 0))), none⟩]) (.kill [1]))
  (.post (.block 0 (.ghost .nv lo_impl_words_0)) .nv))
  (.ghost (.kill [11, 12, 13]) (.seq (.post (.reg [⟨(some 22), .call (.func i_P_strings_Builder_String) [(.tmp 5)], none⟩,
    ⟨(some 23), .op (.bin .add (.tmp 22) (.const (Value.string ⟨#[10]⟩))), none⟩,
    ⟨(some 4), .op (.mv (.tmp 23)), none⟩]) (.kill [5, 22, 23]))
  (.ghost .nv .ret)))))))
theorem cf_impl_words : chkFn Tryd.prog i_impl_words ac_impl_words [.tmp 4] 24 = true := by decide +kernel
def fa_impl_words : FnA := ⟨ac_impl_words, [.tmp 4], 24, false, true, [], .any, none⟩

/-- The checked code of impl size bool . -/
def ac_impl_size_bool : AC := (.seq (.post (.reg [⟨(some 2), .op (.mv (.const (Value.int .i64 0))), none⟩]) (.kill [2]))
  (.seq (.post (.reg [⟨(some 3), .op (.mv (.tmp 0)), none⟩,
    ⟨(some 4), .op (.len false (.tmp 3)), none⟩,
    ⟨(some 2), .op (.mv (.tmp 4)), none⟩]) (.kill [0, 3, 4]))
  .ret))
theorem cf_impl_size_bool : chkFn Tryd.prog i_impl_size_bool ac_impl_size_bool [.tmp 2] 5 = true := by decide +kernel
def fa_impl_size_bool : FnA := ⟨ac_impl_size_bool, [.tmp 2], 5, false, true, [], .any, none⟩

/-- The checked code of impl within. -/
def ac_impl_within : AC := (.seq (.post (.reg [⟨(some 6), .op (.mv (.const (Value.bool false))), none⟩]) (.kill [6]))
  (.seq (.post (.reg [⟨(some 7), .op (.mv (.tmp 0)), none⟩,
    ⟨(some 8), .op (.mv (.tmp 1)), none⟩,
    ⟨(some 9), .op (.bin .geq (.tmp 7) (.tmp 8)), none⟩,
    ⟨(some 10), .op (.mv (.tmp 9)), none⟩,
    ⟨(some 11), .op (.mv (.tmp 0)), some (10, true)⟩,
    ⟨(some 12), .op (.mv (.tmp 2)), some (10, true)⟩,
    ⟨(some 13), .op (.bin .leq (.tmp 11) (.tmp 12)), some (10, true)⟩,
    ⟨(some 14), .op (.pick (.tmp 10) (.tmp 13) (.const (Value.bool false))), none⟩,
    ⟨(some 6), .op (.mv (.tmp 14)), none⟩]) (.kill [0, 1, 2, 7, 8, 9, 10, 11, 12, 13, 14]))
  .ret))
theorem cf_impl_within : chkFn Tryd.prog i_impl_within ac_impl_within [.tmp 6] 15 = true := by decide +kernel
def fa_impl_within : FnA := ⟨ac_impl_within, [.tmp 6], 15, false, true, [], .any, none⟩

/-- The checked code of impl Checker  isState. -/
def ac_impl_Checker_isState : AC := (.seq (.post (.reg [⟨(some 2), .op (.box true (.tmp 0)), none⟩,
    ⟨(some 4), .op (.mv (.const (Value.bool false))), none⟩]) (.kill [0, 4]))
  (.seq (.post (.reg [⟨(some 5), .op (.mv (.tmp 1)), none⟩,
    ⟨(some 6), .op (.faddr (.tmp 2) 2), none⟩,
    ⟨(some 7), .op (.load 1 false (.tmp 6)), none⟩,
    ⟨(some 8), .call (.func i_impl_size_bool) [(.tmp 7)], none⟩,
    ⟨(some 9), .op (.bin .sub (.tmp 8) (.const (Value.int .i64 1))), none⟩,
    ⟨(some 10), .call (.func i_impl_within) [(.tmp 5), (.const (Value.int .i64 0)), (.tmp 9)], none⟩,
    ⟨(some 4), .op (.mv (.tmp 10)), none⟩]) (.kill [1, 2, 5, 6, 7, 8, 9, 10]))
  .ret))
theorem cf_impl_Checker_isState : chkFn Tryd.prog i_impl_Checker_isState ac_impl_Checker_isState [.tmp 4] 11 = true := by decide +kernel
def fa_impl_Checker_isState : FnA := ⟨ac_impl_Checker_isState, [.tmp 4], 11, false, true, [], .any, none⟩

/-- The checked code of impl Push . -/
def ac_impl_size_L_impl_Push : AC := (.seq (.post (.reg [⟨(some 2), .op (.mv (.const (Value.int .i64 0))), none⟩]) (.kill [2]))
  (.seq (.post (.reg [⟨(some 3), .op (.mv (.tmp 0)), none⟩,
    ⟨(some 4), .op (.len false (.tmp 3)), none⟩,
    ⟨(some 2), .op (.mv (.tmp 4)), none⟩]) (.kill [0, 3, 4]))
  .ret))
theorem cf_impl_size_L_impl_Push : chkFn Tryd.prog i_impl_size_L_impl_Push ac_impl_size_L_impl_Push [.tmp 2] 5 = true := by decide +kernel
def fa_impl_size_L_impl_Push : FnA := ⟨ac_impl_size_L_impl_Push, [.tmp 2], 5, false, true, [], .any, none⟩

/-- The checked code of impl size     int64 . -/
def ac_impl_size_L_L_int64 : AC := (.seq (.post (.reg [⟨(some 2), .op (.mv (.const (Value.int .i64 0))), none⟩]) (.kill [2]))
  (.seq (.post (.reg [⟨(some 3), .op (.mv (.tmp 0)), none⟩,
    ⟨(some 4), .op (.len false (.tmp 3)), none⟩,
    ⟨(some 2), .op (.mv (.tmp 4)), none⟩]) (.kill [0, 3, 4]))
  .ret))
theorem cf_impl_size_L_L_int64 : chkFn Tryd.prog i_impl_size_L_L_int64 ac_impl_size_L_L_int64 [.tmp 2] 5 = true := by decide +kernel
def fa_impl_size_L_L_int64 : FnA := ⟨ac_impl_size_L_L_int64, [.tmp 2], 5, false, true, [], .any, none⟩

/-- The checked code of impl size   int64 . -/
def ac_impl_size_L_int64 : AC := (.seq (.post (.reg [⟨(some 2), .op (.mv (.const (Value.int .i64 0))), none⟩]) (.kill [2]))
  (.seq (.post (.reg [⟨(some 3), .op (.mv (.tmp 0)), none⟩,
    ⟨(some 4), .op (.len false (.tmp 3)), none⟩,
    ⟨(some 2), .op (.mv (.tmp 4)), none⟩]) (.kill [0, 3, 4]))
  .ret))
theorem cf_impl_size_L_int64 : chkFn Tryd.prog i_impl_size_L_int64 ac_impl_size_L_int64 [.tmp 2] 5 = true := by decide +kernel
def fa_impl_size_L_int64 : FnA := ⟨ac_impl_size_L_int64, [.tmp 2], 5, false, true, [], .any, none⟩

/-- The checked code of impl size int64 . -/
def ac_impl_size_int64 : AC := (.seq (.post (.reg [⟨(some 2), .op (.mv (.const (Value.int .i64 0))), none⟩]) (.kill [2]))
  (.seq (.post (.reg [⟨(some 3), .op (.mv (.tmp 0)), none⟩,
    ⟨(some 4), .op (.len false (.tmp 3)), none⟩,
    ⟨(some 2), .op (.mv (.tmp 4)), none⟩]) (.kill [0, 3, 4]))
  .ret))
theorem cf_impl_size_int64 : chkFn Tryd.prog i_impl_size_int64 ac_impl_size_int64 [.tmp 2] 5 = true := by decide +kernel
def fa_impl_size_int64 : FnA := ⟨ac_impl_size_int64, [.tmp 2], 5, false, true, [], .any, none⟩

/-- The checked code of slices IndexFunc   int64 int64 . -/
def lb_slices_IndexFunc_L_int64_0 : AC := (.seq (.reg [⟨(some 9), .op (.bin .lss (.tmp 8) (.tmp 7)), none⟩])
  (.seq (.cond (.tmp 9) (.ghost (.kill [9]) .skip)
  (.ghost (.kill [0, 1, 7, 8, 9]) (.exit 0)))
  (.seq (.block 1 (.seq (.post (.reg [⟨(some 10), .op (.mv (.tmp 8)), none⟩,
    ⟨(some 5), .op (.mv (.tmp 10)), none⟩]) (.kill [10]))
  (.seq (.post (.reg [⟨(some 11), .op (.mv (.tmp 1)), none⟩,
    ⟨(some 12), .op (.mv (.tmp 0)), none⟩,
    ⟨(some 13), .op (.mv (.tmp 5)), none⟩,
    ⟨(some 14), .op (.iaddrS (.tmp 12) (.tmp 13) 1), none⟩,
    ⟨(some 15), .op (.load 1 false (.tmp 14)), none⟩,
    ⟨(some 16), .call (.tmp 11) [(.tmp 15)], none⟩]) (.kill [11, 12, 13, 14, 15]))
  (.cond (.tmp 16) (.ghost (.kill [0, 1, 7, 8, 16]) (.seq (.post (.reg [⟨(some 17), .op (.mv (.tmp 5)), none⟩,
    ⟨(some 4), .op (.mv (.tmp 17)), none⟩]) (.kill [5, 17]))
  .ret))
  (.ghost (.kill [5, 16]) .skip)))))
  (.post (.reg [⟨(some 18), .op (.bin .add (.tmp 8) (.const (Value.int .i64 1))), none⟩,
    ⟨(some 8), .op (.mv (.tmp 18)), none⟩]) (.kill [18])))))
def lo_slices_IndexFunc_L_int64_0 : AC := (.loop lb_slices_IndexFunc_L_int64_0)
def ac_slices_IndexFunc_L_int64 : AC := (.seq (.post (.reg [⟨(some 4), .op (.mv (.const (Value.int .i64 0))), none⟩]) (.kill [4]))
  (.seq (.seq (.post (.reg [⟨(some 6), .op (.mv (.tmp 0)), none⟩,
    ⟨(some 7), .op (.len false (.tmp 6)), none⟩,
    ⟨(some 8), .op (.mv (.const (Value.int .i64 0))), none⟩]) (.kill [6]))
  (.block 0 lo_slices_IndexFunc_L_int64_0))
  (.ghost (.kill [0, 1, 7, 8]) (.seq (.reg [⟨(some 4), .op (.mv (.const (Value.int .i64 (-1)))), none⟩])
  .ret))))
theorem cf_slices_IndexFunc_L_int64 : chkFn Tryd.prog i_slices_IndexFunc_L_int64 ac_slices_IndexFunc_L_int64 [.tmp 4] 19 = true := by decide +kernel
def fa_slices_IndexFunc_L_int64 : FnA := ⟨ac_slices_IndexFunc_L_int64, [.tmp 4], 19, false, true, [], .any, none⟩

/-- The checked code of slices ContainsFunc   int64 int64 . -/
def ac_slices_ContainsFunc_L_int64 : AC := (.seq (.post (.reg [⟨(some 4), .op (.mv (.const (Value.bool false))), none⟩]) (.kill [4]))
  (.seq (.post (.reg [⟨(some 5), .op (.mv (.tmp 0)), none⟩,
    ⟨(some 6), .op (.mv (.tmp 1)), none⟩,
    ⟨(some 7), .call (.func i_slices_IndexFunc_L_int64) [(.tmp 5), (.tmp 6)], none⟩,
    ⟨(some 8), .op (.bin .geq (.tmp 7) (.const (Value.int .i64 0))), none⟩,
    ⟨(some 4), .op (.mv (.tmp 8)), none⟩]) (.kill [0, 1, 5, 6, 7, 8]))
  .ret))
theorem cf_slices_ContainsFunc_L_int64 : chkFn Tryd.prog i_slices_ContainsFunc_L_int64 ac_slices_ContainsFunc_L_int64 [.tmp 4] 9 = true := by decide +kernel
def fa_slices_ContainsFunc_L_int64 : FnA := ⟨ac_slices_ContainsFunc_L_int64, [.tmp 4], 9, false, true, [], .any, none⟩

/-- The checked code of impl ValidChecker 1 1. -/
def ac_impl_ValidChecker_1_1 : AC := (.seq (.post (.reg [⟨(some 3), .op (.mv (.const (Value.bool false))), none⟩]) (.kill [3]))
  (.seq (.post (.reg [⟨(some 4), .op (.load 6 true (.tmp 1)), none⟩,
    ⟨(some 5), .op (.mv (.tmp 0)), none⟩,
    ⟨(some 6), .call (.func i_impl_Checker_isState) [(.tmp 4), (.tmp 5)], none⟩,
    ⟨(some 7), .op (.un .not (.tmp 6)), none⟩,
    ⟨(some 3), .op (.mv (.tmp 7)), none⟩]) (.kill [0, 1, 4, 5, 6, 7]))
  .ret))
theorem cf_impl_ValidChecker_1_1 : chkFn Tryd.prog i_impl_ValidChecker_1_1 ac_impl_ValidChecker_1_1 [.tmp 3] 8 = true := by decide +kernel
def fa_impl_ValidChecker_1_1 : FnA := ⟨ac_impl_ValidChecker_1_1, [.tmp 3], 8, false, true, [], .any, none⟩

/-- The checked code of impl ValidChecker 1. -/
def ac_impl_ValidChecker_1 : AC := (.seq (.post (.reg [⟨(some 5), .op (.mv (.const (Value.bool false))), none⟩]) (.kill [5]))
  (.seq (.post (.reg [⟨(some 6), .op (.mv (.tmp 0)), none⟩,
    ⟨(some 7), .call (.func i_impl_size_int64) [(.tmp 6)], none⟩,
    ⟨(some 8), .op (.mv (.tmp 1)), none⟩,
    ⟨(some 9), .op (.bin .eql (.tmp 7) (.tmp 8)), none⟩,
    ⟨(some 10), .op (.mv (.tmp 9)), none⟩,
    ⟨(some 11), .op (.mv (.tmp 0)), some (10, true)⟩,
    ⟨(some 12), .op (.mkfn i_impl_ValidChecker_1_1 [(.tmp 2)]), some (10, true)⟩,
    ⟨(some 13), .call (.func i_slices_ContainsFunc_L_int64) [(.tmp 11), (.tmp 12)], some (10, true)⟩,
    ⟨(some 14), .op (.un .not (.tmp 13)), some (10, true)⟩,
    ⟨(some 15), .op (.pick (.tmp 10) (.tmp 14) (.const (Value.bool false))), none⟩,
    ⟨(some 5), .op (.mv (.tmp 15)), none⟩]) (.kill [0, 1, 2, 6, 7, 8, 9, 10, 11, 12, 13, 14, 15]))
  .ret))
theorem cf_impl_ValidChecker_1 : chkFn Tryd.prog i_impl_ValidChecker_1 ac_impl_ValidChecker_1 [.tmp 5] 16 = true := by decide +kernel
def fa_impl_ValidChecker_1 : FnA := ⟨ac_impl_ValidChecker_1, [.tmp 5], 16, false, true, [], .any, none⟩

/-- The checked code of impl Checker  isMark. -/
def ac_impl_Checker_isMark : AC := (.seq (.post (.reg [⟨(some 2), .op (.box true (.tmp 0)), none⟩,
    ⟨(some 4), .op (.mv (.const (Value.bool false))), none⟩]) (.kill [0, 4]))
  (.seq (.post (.reg [⟨(some 5), .op (.mv (.tmp 1)), none⟩,
    ⟨(some 6), .op (.faddr (.tmp 2) 0), none⟩,
    ⟨(some 7), .op (.load 1 false (.tmp 6)), none⟩,
    ⟨(some 8), .op (.bin .sub (.tmp 7) (.const (Value.int .i64 1))), none⟩,
    ⟨(some 9), .call (.func i_impl_within) [(.tmp 5), (.const (Value.int .i64 0)), (.tmp 8)], none⟩,
    ⟨(some 4), .op (.mv (.tmp 9)), none⟩]) (.kill [1, 2, 5, 6, 7, 8, 9]))
  .ret))
theorem cf_impl_Checker_isMark : chkFn Tryd.prog i_impl_Checker_isMark ac_impl_Checker_isMark [.tmp 4] 10 = true := by decide +kernel
def fa_impl_Checker_isMark : FnA := ⟨ac_impl_Checker_isMark, [.tmp 4], 10, false, true, [], .any, none⟩

/-- The checked code of impl ValidChecker. -/
def lb_impl_ValidChecker_0 : AC := (.post (.seq (.reg [⟨(some 80), .op (.bin .lss (.tmp 79) (.const (Value.int .i64 2))), none⟩])
  (.seq (.cond (.tmp 80) (.ghost (.kill [80]) .skip)
  (.ghost (.kill [5, 79, 80]) (.exit 2)))
  (.seq (.block 3 (.seq (.post (.reg [⟨(some 81), .op (.mv (.tmp 79)), none⟩,
    ⟨(some 6), .op (.mv (.tmp 81)), none⟩]) (.kill [81]))
  (.seq (.post (.reg [⟨(some 82), .op (.faddr (.tmp 1) 3), none⟩,
    ⟨(some 83), .op (.load 1 false (.tmp 82)), none⟩,
    ⟨(some 84), .op (.mv (.tmp 5)), none⟩,
    ⟨(some 85), .op (.iaddrS (.tmp 83) (.tmp 84) 1), none⟩,
    ⟨(some 86), .op (.load 1 false (.tmp 85)), none⟩,
    ⟨(some 87), .op (.mv (.tmp 6)), none⟩,
    ⟨(some 88), .op (.iaddrS (.tmp 86) (.tmp 87) 2), none⟩,
    ⟨(some 89), .op (.load 2 true (.tmp 88)), none⟩,
    ⟨(some 7), .op (.alloc (Value.agg #[Value.int .i64 0, Value.int .i64 0])), none⟩,
    ⟨none, .op (.store 2 (.tmp 7) (.tmp 89)), none⟩]) (.kill [82, 83, 84, 85, 86, 87, 88, 89]))
  (.seq (.post (.draw [⟨0, ⟨(some 90), .op (.load 6 true (.tmp 1)), none⟩, []⟩,
    ⟨1, ⟨(some 91), .op (.faddr (.tmp 7) 0), none⟩, []⟩,
    ⟨2, ⟨(some 92), .op (.load 1 false (.tmp 91)), none⟩, []⟩,
    ⟨3, ⟨(some 93), .call (.func i_impl_Checker_isState) [(.tmp 90), (.tmp 92)], none⟩, []⟩,
    ⟨4, ⟨(some 94), .op (.un .not (.tmp 93)), none⟩, []⟩,
    ⟨5, ⟨(some 95), .op (.mv (.tmp 94)), none⟩, []⟩,
    ⟨6, ⟨(some 96), .op (.load 6 true (.tmp 1)), some (95, false)⟩, []⟩,
    ⟨7, ⟨(some 97), .op (.faddr (.tmp 7) 1), some (95, false)⟩, []⟩,
    ⟨8, ⟨(some 98), .op (.load 1 false (.tmp 97)), some (95, false)⟩, []⟩,
    ⟨9, ⟨(some 99), .call (.func i_impl_Checker_isMark) [(.tmp 96), (.tmp 98)], some (95, false)⟩, []⟩,
    ⟨10, ⟨(some 100), .op (.un .not (.tmp 99)), some (95, false)⟩, []⟩,
    ⟨11, ⟨(some 101), .op (.pick (.tmp 95) (.const (Value.bool true)) (.tmp 100)), none⟩, []⟩,
    ⟨12, ⟨(some 102), .op (.mv (.tmp 101)), none⟩, []⟩,
    ⟨13, ⟨(some 103), .op (.mv (.tmp 4)), some (102, false)⟩, []⟩,
    ⟨14, ⟨(some 104), .op (.faddr (.tmp 1) 4), some (102, false)⟩, []⟩,
    ⟨15, ⟨(some 105), .op (.load 1 false (.tmp 104)), some (102, false)⟩, []⟩,
    ⟨16, ⟨(some 106), .op (.mv (.tmp 5)), some (102, false)⟩, []⟩,
    ⟨17, ⟨(some 107), .op (.iaddrS (.tmp 105) (.tmp 106) 1), some (102, false)⟩, []⟩,
    ⟨18, ⟨(some 108), .op (.load 1 false (.tmp 107)), some (102, false)⟩, []⟩,
    ⟨19, ⟨(some 109), .op (.mv (.tmp 6)), some (102, false)⟩, []⟩,
    ⟨20, ⟨(some 110), .op (.iaddrS (.tmp 108) (.tmp 109) 1), some (102, false)⟩, []⟩,
    ⟨21, ⟨(some 111), .op (.load 1 false (.tmp 110)), some (102, false)⟩, []⟩,
    ⟨22, ⟨(some 112), .op (.faddr (.tmp 1) 0), some (102, false)⟩, []⟩,
    ⟨23, ⟨(some 113), .op (.load 1 false (.tmp 112)), some (102, false)⟩, []⟩,
    ⟨24, ⟨(some 114), .op (.bin .add (.tmp 113) (.const (Value.int .i64 1))), some (102, false)⟩, []⟩,
    ⟨25, ⟨(some 115), .call (.tmp 103) [(.tmp 111), (.tmp 114)], some (102, false)⟩, []⟩,
    ⟨26, ⟨(some 116), .op (.un .not (.tmp 115)), some (102, false)⟩, []⟩,
    ⟨27, ⟨(some 117), .op (.pick (.tmp 102) (.const (Value.bool true)) (.tmp 116)), none⟩, []⟩]
    [0, 0, 2, 7, 15, 31, 63, 63, 191, 511, 1023, 2047, 4095, 8191, 8191, 24575, 8191, 122879, 253951, 8191, 1040383, 2088959, 8191, 4202495, 12591103, 33554431, 67108863, 134217727]) (.kill [6, 7, 90, 91, 92, 93, 94, 95, 96, 97, 98, 99, 100, 101, 102, 103, 104, 105, 106, 107, 108, 109, 110, 111, 112, 113, 114, 115, 116]))
  (.cond (.tmp 117) (.ghost (.kill [1, 4, 5, 49, 50, 79, 117]) (.seq (.reg [⟨(some 2), .op (.mv (.const (Value.bool false))), none⟩])
  .ret))
  (.ghost (.kill [117]) .skip))))))
  (.post (.reg [⟨(some 118), .op (.bin .add (.tmp 79) (.const (Value.int .i64 1))), none⟩,
    ⟨(some 79), .op (.mv (.tmp 118)), none⟩]) (.kill [118]))))) .nv)
def lo_impl_ValidChecker_0 : AC := (.loop lb_impl_ValidChecker_0)
def lb_impl_ValidChecker_1 : AC := (.post (.seq (.reg [⟨(some 51), .op (.bin .lss (.tmp 50) (.tmp 49)), none⟩])
  (.seq (.cond (.tmp 51) (.ghost (.kill [51]) .skip)
  (.ghost (.kill [1, 4, 49, 50, 51]) (.exit 0)))
  (.seq (.block 1 (.seq (.post (.reg [⟨(some 52), .op (.mv (.tmp 50)), none⟩,
    ⟨(some 5), .op (.mv (.tmp 52)), none⟩]) (.kill [52]))
  (.seq (.seq (.post (.reg [⟨(some 53), .op (.faddr (.tmp 1) 3), none⟩,
    ⟨(some 54), .op (.load 1 false (.tmp 53)), none⟩,
    ⟨(some 55), .op (.mv (.tmp 5)), none⟩,
    ⟨(some 56), .op (.iaddrS (.tmp 54) (.tmp 55) 1), none⟩,
    ⟨(some 57), .op (.load 1 false (.tmp 56)), none⟩,
    ⟨(some 58), .op (.len false (.tmp 57)), none⟩,
    ⟨(some 59), .op (.bin .neq (.tmp 58) (.const (Value.int .i64 2))), none⟩,
    ⟨(some 60), .op (.mv (.tmp 59)), none⟩,
    ⟨(some 61), .op (.faddr (.tmp 1) 4), some (60, false)⟩,
    ⟨(some 62), .op (.load 1 false (.tmp 61)), some (60, false)⟩,
    ⟨(some 63), .op (.mv (.tmp 5)), some (60, false)⟩,
    ⟨(some 64), .op (.iaddrS (.tmp 62) (.tmp 63) 1), some (60, false)⟩,
    ⟨(some 65), .op (.load 1 false (.tmp 64)), some (60, false)⟩,
    ⟨(some 66), .op (.len false (.tmp 65)), some (60, false)⟩,
    ⟨(some 67), .op (.bin .neq (.tmp 66) (.const (Value.int .i64 2))), some (60, false)⟩,
    ⟨(some 68), .op (.pick (.tmp 60) (.const (Value.bool true)) (.tmp 67)), none⟩,
    ⟨(some 69), .op (.mv (.tmp 68)), none⟩,
    ⟨(some 70), .op (.mv (.tmp 4)), some (69, false)⟩,
    ⟨(some 71), .op (.faddr (.tmp 1) 5), some (69, false)⟩,
    ⟨(some 72), .op (.load 1 false (.tmp 71)), some (69, false)⟩,
    ⟨(some 73), .op (.mv (.tmp 5)), some (69, false)⟩,
    ⟨(some 74), .op (.iaddrS (.tmp 72) (.tmp 73) 1), some (69, false)⟩,
    ⟨(some 75), .op (.load 1 false (.tmp 74)), some (69, false)⟩,
    ⟨(some 76), .call (.tmp 70) [(.tmp 75), (.const (Value.int .i64 2))], some (69, false)⟩,
    ⟨(some 77), .op (.un .not (.tmp 76)), some (69, false)⟩,
    ⟨(some 78), .op (.pick (.tmp 69) (.const (Value.bool true)) (.tmp 77)), none⟩]) (.kill [53, 54, 55, 56, 57, 58, 59, 60, 61, 62, 63, 64, 65, 66, 67, 68, 69, 70, 71, 72, 73, 74, 75, 76, 77]))
  (.cond (.tmp 78) (.ghost (.kill [1, 4, 5, 49, 50, 78]) (.seq (.reg [⟨(some 2), .op (.mv (.const (Value.bool false))), none⟩])
  .ret))
  (.ghost (.kill [78]) .skip)))
  (.seq (.reg [⟨(some 79), .op (.mv (.const (Value.int .i64 0))), none⟩])
  (.post (.block 2 (.ghost .nv lo_impl_ValidChecker_0)) .nv)))))
  (.ghost (.kill [5, 79]) (.post (.reg [⟨(some 119), .op (.bin .add (.tmp 50) (.const (Value.int .i64 1))), none⟩,
    ⟨(some 50), .op (.mv (.tmp 119)), none⟩]) (.kill [119])))))) .nv)
def lo_impl_ValidChecker_1 : AC := (.loop lb_impl_ValidChecker_1)
def ac_impl_ValidChecker : AC := (.seq (.post (.reg [⟨(some 1), .op (.box true (.tmp 0)), none⟩,
    ⟨(some 2), .op (.mv (.const (Value.bool false))), none⟩]) (.kill [0, 2]))
  (.seq (.post (.reg [⟨(some 8), .op (.faddr (.tmp 1) 2), none⟩,
    ⟨(some 9), .op (.load 1 false (.tmp 8)), none⟩,
    ⟨(some 10), .call (.func i_impl_size_bool) [(.tmp 9)], none⟩,
    ⟨(some 3), .op (.mv (.tmp 10)), none⟩]) (.kill [8, 9, 10]))
  (.seq (.seq (.post (.reg [⟨(some 11), .op (.mv (.tmp 3)), none⟩,
    ⟨(some 12), .call (.func i_impl_within) [(.tmp 11), (.const (Value.int .i64 1)), (.const (Value.int .i64 40))], none⟩,
    ⟨(some 13), .op (.un .not (.tmp 12)), none⟩,
    ⟨(some 14), .op (.mv (.tmp 13)), none⟩,
    ⟨(some 15), .op (.faddr (.tmp 1) 0), some (14, false)⟩,
    ⟨(some 16), .op (.load 1 false (.tmp 15)), some (14, false)⟩,
    ⟨(some 17), .call (.func i_impl_within) [(.tmp 16), (.const (Value.int .i64 1)), (.const (Value.int .i64 80))], some (14, false)⟩,
    ⟨(some 18), .op (.un .not (.tmp 17)), some (14, false)⟩,
    ⟨(some 19), .op (.pick (.tmp 14) (.const (Value.bool true)) (.tmp 18)), none⟩,
    ⟨(some 20), .op (.mv (.tmp 19)), none⟩,
    ⟨(some 21), .op (.load 6 true (.tmp 1)), some (20, false)⟩,
    ⟨(some 22), .op (.faddr (.tmp 1) 1), some (20, false)⟩,
    ⟨(some 23), .op (.load 1 false (.tmp 22)), some (20, false)⟩,
    ⟨(some 24), .call (.func i_impl_Checker_isState) [(.tmp 21), (.tmp 23)], some (20, false)⟩,
    ⟨(some 25), .op (.un .not (.tmp 24)), some (20, false)⟩,
    ⟨(some 26), .op (.pick (.tmp 20) (.const (Value.bool true)) (.tmp 25)), none⟩,
    ⟨(some 27), .op (.mv (.tmp 26)), none⟩,
    ⟨(some 28), .op (.faddr (.tmp 1) 3), some (27, false)⟩,
    ⟨(some 29), .op (.load 1 false (.tmp 28)), some (27, false)⟩,
    ⟨(some 30), .call (.func i_impl_size_L_impl_Push) [(.tmp 29)], some (27, false)⟩,
    ⟨(some 31), .op (.mv (.tmp 3)), some (27, false)⟩,
    ⟨(some 32), .op (.bin .neq (.tmp 30) (.tmp 31)), some (27, false)⟩,
    ⟨(some 33), .op (.pick (.tmp 27) (.const (Value.bool true)) (.tmp 32)), none⟩,
    ⟨(some 34), .op (.mv (.tmp 33)), none⟩,
    ⟨(some 35), .op (.faddr (.tmp 1) 4), some (34, false)⟩,
    ⟨(some 36), .op (.load 1 false (.tmp 35)), some (34, false)⟩,
    ⟨(some 37), .call (.func i_impl_size_L_L_int64) [(.tmp 36)], some (34, false)⟩,
    ⟨(some 38), .op (.mv (.tmp 3)), some (34, false)⟩,
    ⟨(some 39), .op (.bin .neq (.tmp 37) (.tmp 38)), some (34, false)⟩,
    ⟨(some 40), .op (.pick (.tmp 34) (.const (Value.bool true)) (.tmp 39)), none⟩,
    ⟨(some 41), .op (.mv (.tmp 40)), none⟩,
    ⟨(some 42), .op (.faddr (.tmp 1) 5), some (41, false)⟩,
    ⟨(some 43), .op (.load 1 false (.tmp 42)), some (41, false)⟩,
    ⟨(some 44), .call (.func i_impl_size_L_int64) [(.tmp 43)], some (41, false)⟩,
    ⟨(some 45), .op (.mv (.tmp 3)), some (41, false)⟩,
    ⟨(some 46), .op (.bin .neq (.tmp 44) (.tmp 45)), some (41, false)⟩,
    ⟨(some 47), .op (.pick (.tmp 41) (.const (Value.bool true)) (.tmp 46)), none⟩]) (.kill [11, 12, 13, 14, 15, 16, 17, 18, 19, 20, 21, 22, 23, 24, 25, 26, 27, 28, 29, 30, 31, 32, 33, 34, 35, 36, 37, 38, 39, 40, 41, 42, 43, 44, 45, 46]))
  (.cond (.tmp 47) (.ghost (.kill [1, 3, 47]) (.seq (.reg [⟨(some 2), .op (.mv (.const (Value.bool false))), none⟩])
  .ret))
  (.ghost (.kill [47]) .skip)))
  (.seq (.post (.reg [⟨(some 48), .op (.mkfn i_impl_ValidChecker_1 [(.tmp 1)]), none⟩,
    ⟨(some 4), .op (.mv (.tmp 48)), none⟩]) (.kill [48]))
  (.seq (.seq (.post (.reg [⟨(some 49), .op (.mv (.tmp 3)), none⟩,
    ⟨(some 50), .op (.mv (.const (Value.int .i64 0))), none⟩]) (.kill [3]))
  (.post (.block 0 (.ghost .nv lo_impl_ValidChecker_1)) .nv))
  (.ghost (.kill [1, 4, 49, 50]) (.seq (.reg [⟨(some 2), .op (.mv (.const (Value.bool true))), none⟩])
  .ret)))))))
theorem cf_impl_ValidChecker : chkFn Tryd.prog i_impl_ValidChecker ac_impl_ValidChecker [.tmp 2] 120 = true := by decide +kernel
def fa_impl_ValidChecker : FnA := ⟨ac_impl_ValidChecker, [.tmp 2], 120, false, true, [], .any, none⟩

/-- The checked code of impl yes. -/
def ac_impl_yes : AC := (.seq (.post (.reg [⟨(some 2), .op (.mv (.const (Value.string ⟨#[]⟩))), none⟩]) (.kill [2]))
  (.seq (.seq (.post (.reg [⟨(some 3), .op (.mv (.tmp 0)), none⟩]) (.kill [0]))
  (.cond (.tmp 3) (.ghost (.kill [3]) (.seq (.reg [⟨(some 2), .op (.mv (.const (Value.string ⟨#[121, 101, 115]⟩))), none⟩])
  .ret))
  (.ghost (.kill [3]) .skip)))
  (.seq (.reg [⟨(some 2), .op (.mv (.const (Value.string ⟨#[110, 111]⟩))), none⟩])
  .ret)))
theorem cf_impl_yes : chkFn Tryd.prog i_impl_yes ac_impl_yes [.tmp 2] 4 = true := by decide +kernel
def fa_impl_yes : FnA := ⟨ac_impl_yes, [.tmp 2], 4, false, true, [], .any, none⟩

/-- The checked code of slices Grow   int64 int64 . -/
def ac_slices_Grow_L_int64 : AC := (.seq (.post (.reg [⟨(some 4), .op (.mv (.const (Value.slice none 0 0))), none⟩]) (.kill [4]))
  (.seq (.seq (.post (.reg [⟨(some 5), .op (.mv (.tmp 1)), none⟩,
    ⟨(some 6), .op (.bin .lss (.tmp 5) (.const (Value.int .i64 0))), none⟩]) (.kill [5]))
  (.cond (.tmp 6) (.ghost (.kill [6]) (.post (.reg [⟨(some 7), .op (.bad), none⟩,
    ⟨none, .op (.bad), none⟩]) (.kill [7])))
  (.ghost (.kill [6]) .skip)))
  (.seq (.seq (.post (.reg [⟨(some 8), .op (.mv (.tmp 1)), none⟩,
    ⟨(some 9), .op (.mv (.tmp 0)), none⟩,
    ⟨(some 10), .op (.cap (.tmp 9)), none⟩,
    ⟨(some 11), .op (.mv (.tmp 0)), none⟩,
    ⟨(some 12), .op (.len false (.tmp 11)), none⟩,
    ⟨(some 13), .op (.bin .sub (.tmp 10) (.tmp 12)), none⟩,
    ⟨(some 14), .op (.bin .sub (.tmp 8) (.tmp 13)), none⟩,
    ⟨(some 1), .op (.mv (.tmp 14)), none⟩]) (.kill [8, 9, 10, 11, 12, 13, 14]))
  (.seq (.post (.reg [⟨(some 15), .op (.mv (.tmp 1)), none⟩,
    ⟨(some 16), .op (.bin .gtr (.tmp 15) (.const (Value.int .i64 0))), none⟩]) (.kill [15]))
  (.cond (.tmp 16) (.ghost (.kill [16]) (.post (.post (.reg [⟨(some 17), .op (.mv (.tmp 0)), none⟩,
    ⟨(some 18), .op (.mv (.tmp 0)), none⟩,
    ⟨(some 19), .op (.cap (.tmp 18)), none⟩,
    ⟨(some 20), .op (.slcS (.tmp 17) none (some (.tmp 19)) none 1), none⟩,
    ⟨(some 21), .op (.mv (.tmp 1)), none⟩,
    ⟨(some 22), .op (.appz (.tmp 20) (.tmp 21) 1 8), none⟩,
    ⟨(some 23), .op (.mv (.tmp 0)), none⟩,
    ⟨(some 24), .op (.len false (.tmp 23)), none⟩,
    ⟨(some 25), .op (.slcS (.tmp 22) none (some (.tmp 24)) none 1), none⟩,
    ⟨(some 0), .op (.mv (.tmp 25)), none⟩]) (.kill [1, 17, 18, 19, 20, 21, 22, 23, 24, 25])) .nv))
  (.ghost (.kill [1, 16]) .skip))))
  (.seq (.post (.reg [⟨(some 26), .op (.mv (.tmp 0)), none⟩,
    ⟨(some 4), .op (.mv (.tmp 26)), none⟩]) (.kill [0, 26]))
  .ret))))
theorem cf_slices_Grow_L_int64 : chkFn Tryd.prog i_slices_Grow_L_int64 ac_slices_Grow_L_int64 [.tmp 4] 27 = true := by decide +kernel
def fa_slices_Grow_L_int64 : FnA := ⟨ac_slices_Grow_L_int64, [.tmp 4], 27, false, false, [], .any, none⟩

/-- The checked code of slices Concat   int64 int64 . -/
def lb_slices_Concat_L_int64_0 : AC := (.post (.seq (.reg [⟨(some 12), .op (.bin .lss (.tmp 11) (.tmp 10)), none⟩])
  (.seq (.cond (.tmp 12) (.ghost (.kill [12]) .skip)
  (.ghost (.kill [9, 10, 11, 12]) (.exit 0)))
  (.seq (.block 1 (.seq (.post (.reg [⟨(some 13), .op (.iaddrS (.tmp 9) (.tmp 11) 1), none⟩,
    ⟨(some 14), .op (.load 1 false (.tmp 13)), none⟩,
    ⟨(some 5), .op (.mv (.tmp 14)), none⟩]) (.kill [13, 14]))
  (.seq (.post (.reg [⟨(some 15), .op (.mv (.tmp 3)), none⟩,
    ⟨(some 16), .op (.mv (.tmp 5)), none⟩,
    ⟨(some 17), .op (.len false (.tmp 16)), none⟩,
    ⟨(some 18), .op (.bin .add (.tmp 15) (.tmp 17)), none⟩,
    ⟨(some 3), .op (.mv (.tmp 18)), none⟩]) (.kill [5, 15, 16, 17, 18]))
  (.seq (.post (.reg [⟨(some 19), .op (.mv (.tmp 3)), none⟩,
    ⟨(some 20), .op (.bin .lss (.tmp 19) (.const (Value.int .i64 0))), none⟩]) (.kill [19]))
  (.cond (.tmp 20) (.ghost (.kill [20]) (.post (.reg [⟨(some 21), .op (.bad), none⟩,
    ⟨none, .op (.bad), none⟩]) (.kill [21])))
  (.ghost (.kill [20]) .skip))))))
  (.post (.reg [⟨(some 22), .op (.bin .add (.tmp 11) (.const (Value.int .i64 1))), none⟩,
    ⟨(some 11), .op (.mv (.tmp 22)), none⟩]) (.kill [22]))))) .nv)
def lo_slices_Concat_L_int64_0 : AC := (.loop lb_slices_Concat_L_int64_0)
def lb_slices_Concat_L_int64_1 : AC := (.post (.seq (.reg [⟨(some 28), .op (.bin .lss (.tmp 27) (.tmp 26)), none⟩])
  (.seq (.cond (.tmp 28) (.ghost (.kill [28]) .skip)
  (.ghost (.kill [25, 26, 27, 28]) (.exit 2)))
  (.seq (.block 3 (.seq (.post (.reg [⟨(some 29), .op (.iaddrS (.tmp 25) (.tmp 27) 1), none⟩,
    ⟨(some 30), .op (.load 1 false (.tmp 29)), none⟩,
    ⟨(some 8), .op (.mv (.tmp 30)), none⟩]) (.kill [29, 30]))
  (.post (.post (.reg [⟨(some 31), .op (.mv (.tmp 6)), none⟩,
    ⟨(some 32), .op (.mv (.tmp 8)), none⟩,
    ⟨(some 33), .op (.append (.tmp 31) (.tmp 32) 1 8), none⟩,
    ⟨(some 6), .op (.mv (.tmp 33)), none⟩]) (.kill [8, 31, 32, 33])) .nv)))
  (.post (.reg [⟨(some 34), .op (.bin .add (.tmp 27) (.const (Value.int .i64 1))), none⟩,
    ⟨(some 27), .op (.mv (.tmp 34)), none⟩]) (.kill [34]))))) .nv)
def lo_slices_Concat_L_int64_1 : AC := (.loop lb_slices_Concat_L_int64_1)
def ac_slices_Concat_L_int64 : AC := (.seq (.post (.reg [⟨(some 2), .op (.mv (.const (Value.slice none 0 0))), none⟩]) (.kill [2]))
  (.seq (.reg [⟨(some 3), .op (.mv (.const (Value.int .i64 0))), none⟩])
  (.seq (.seq (.reg [⟨(some 9), .op (.mv (.tmp 0)), none⟩,
    ⟨(some 10), .op (.len false (.tmp 9)), none⟩,
    ⟨(some 11), .op (.mv (.const (Value.int .i64 0))), none⟩])
  (.post (.block 0 (.ghost .nv lo_slices_Concat_L_int64_0)) .nv))
  (.ghost (.kill [9, 10, 11]) (.seq (.post (.reg [⟨(some 23), .op (.mv (.tmp 3)), none⟩,
    ⟨(some 24), .call (.func i_slices_Grow_L_int64) [(.const (Value.slice none 0 0)), (.tmp 23)], none⟩,
    ⟨(some 6), .op (.mv (.tmp 24)), none⟩]) (.kill [3, 23, 24]))
  (.seq (.seq (.post (.reg [⟨(some 25), .op (.mv (.tmp 0)), none⟩,
    ⟨(some 26), .op (.len false (.tmp 25)), none⟩,
    ⟨(some 27), .op (.mv (.const (Value.int .i64 0))), none⟩]) (.kill [0]))
  (.post (.block 2 (.ghost (.ow 6 none 1) (.ghost .nv lo_slices_Concat_L_int64_1))) .nv))
  (.ghost (.kill [25, 26, 27]) (.seq (.post (.reg [⟨(some 35), .op (.mv (.tmp 6)), none⟩,
    ⟨(some 2), .op (.mv (.tmp 35)), none⟩]) (.kill [6, 35]))
  .ret))))))))
theorem cf_slices_Concat_L_int64 : chkFn Tryd.prog i_slices_Concat_L_int64 ac_slices_Concat_L_int64 [.tmp 2] 36 = true := by decide +kernel
def fa_slices_Concat_L_int64 : FnA := ⟨ac_slices_Concat_L_int64, [.tmp 2], 36, false, false, [], .any, none⟩

/-- The checked code of impl CheckerText. -/
def lb_impl_CheckerText_0 : AC := (.post (.seq (.reg [⟨(some 37), .op (.bin .lss (.tmp 36) (.tmp 35)), none⟩])
  (.seq (.cond (.tmp 37) (.ghost (.kill [37]) .skip)
  (.ghost (.kill [34, 35, 36, 37]) (.exit 2)))
  (.seq (.block 3 (.seq (.post (.reg [⟨(some 38), .op (.iaddrS (.tmp 34) (.tmp 36) 2), none⟩,
    ⟨(some 39), .op (.load 2 true (.tmp 38)), none⟩,
    ⟨(some 8), .op (.alloc (Value.agg #[Value.int .i64 0, Value.int .i64 0])), none⟩,
    ⟨none, .op (.store 2 (.tmp 8) (.tmp 39)), none⟩]) (.kill [38, 39]))
  (.post (.post (.reg [⟨(some 40), .op (.mv (.tmp 6)), none⟩,
    ⟨(some 41), .op (.faddr (.tmp 8) 0), none⟩,
    ⟨(some 42), .op (.load 1 false (.tmp 41)), none⟩,
    ⟨(some 43), .op (.faddr (.tmp 8) 1), none⟩,
    ⟨(some 44), .op (.load 1 false (.tmp 43)), none⟩,
    ⟨(some 45), .op (.lits true 1 2 (Value.int .i64 0) [(0, (.tmp 42)), (1, (.tmp 44))]), none⟩,
    ⟨(some 46), .op (.append (.tmp 40) (.tmp 45) 1 8), none⟩,
    ⟨(some 6), .op (.mv (.tmp 46)), none⟩]) (.kill [8, 40, 41, 42, 43, 44, 45, 46])) .nv)))
  (.post (.reg [⟨(some 47), .op (.bin .add (.tmp 36) (.const (Value.int .i64 1))), none⟩,
    ⟨(some 36), .op (.mv (.tmp 47)), none⟩]) (.kill [47]))))) .nv)
def lo_impl_CheckerText_0 : AC := (.loop lb_impl_CheckerText_0)
def lb_impl_CheckerText_1 : AC := (.post (.seq (.reg [⟨(some 25), .op (.bin .lss (.tmp 24) (.tmp 23)), none⟩])
  (.seq (.cond (.tmp 25) (.ghost (.kill [25]) .skip)
  (.ghost (.kill [1, 22, 23, 24, 25]) (.exit 0)))
  (.seq (.block 1 (.seq (.post (.reg [⟨(some 26), .op (.mv (.tmp 24)), none⟩,
    ⟨(some 27), .op (.iaddrS (.tmp 22) (.tmp 24) 1), none⟩,
    ⟨(some 28), .op (.load 1 false (.tmp 27)), none⟩,
    ⟨(some 4), .op (.mv (.tmp 26)), none⟩,
    ⟨(some 5), .op (.mv (.tmp 28)), none⟩]) (.kill [26, 27, 28]))
  (.seq (.post (.reg [⟨(some 29), .op (.lits true 1 0 (Value.int .i64 0) []), none⟩,
    ⟨(some 6), .op (.mv (.tmp 29)), none⟩]) (.kill [29]))
  (.seq (.seq (.post (.reg [⟨(some 30), .op (.faddr (.tmp 1) 3), none⟩,
    ⟨(some 31), .op (.load 1 false (.tmp 30)), none⟩,
    ⟨(some 32), .op (.mv (.tmp 4)), none⟩,
    ⟨(some 33), .op (.iaddrS (.tmp 31) (.tmp 32) 1), none⟩,
    ⟨(some 34), .op (.load 1 false (.tmp 33)), none⟩,
    ⟨(some 35), .op (.len false (.tmp 34)), none⟩,
    ⟨(some 36), .op (.mv (.const (Value.int .i64 0))), none⟩]) (.kill [30, 31, 32, 33]))
  (.post (.block 2 (.ghost (.ow 6 none 1) (.ghost .nv lo_impl_CheckerText_0))) .nv))
  (.ghost (.kill [34, 35, 36]) (.post (.draw [⟨0, ⟨(some 48), .op (.mv (.tmp 3)), none⟩, []⟩,
    ⟨1, ⟨(some 49), .op (.mv (.tmp 5)), none⟩, []⟩,
    ⟨2, ⟨(some 50), .call (.func i_impl_yes) [(.tmp 49)] true, none⟩, []⟩,
    ⟨3, ⟨(some 51), .op (.mv (.tmp 6)), none⟩, []⟩,
    ⟨4, ⟨(some 52), .op (.faddr (.tmp 1) 4), none⟩, []⟩,
    ⟨5, ⟨(some 53), .op (.load 1 false (.tmp 52)), none⟩, []⟩,
    ⟨6, ⟨(some 54), .op (.mv (.tmp 4)), none⟩, []⟩,
    ⟨7, ⟨(some 55), .op (.iaddrS (.tmp 53) (.tmp 54) 1), none⟩, []⟩,
    ⟨8, ⟨(some 56), .op (.load 1 false (.tmp 55)), none⟩, []⟩,
    ⟨9, ⟨(some 57), .op (.iaddrS (.tmp 56) (.const (Value.int .i64 0)) 1), none⟩, []⟩,
    ⟨10, ⟨(some 58), .op (.load 1 false (.tmp 57)), none⟩, []⟩,
    ⟨11, ⟨(some 59), .op (.faddr (.tmp 1) 4), none⟩, []⟩,
    ⟨12, ⟨(some 60), .op (.load 1 false (.tmp 59)), none⟩, []⟩,
    ⟨13, ⟨(some 61), .op (.mv (.tmp 4)), none⟩, []⟩,
    ⟨14, ⟨(some 62), .op (.iaddrS (.tmp 60) (.tmp 61) 1), none⟩, []⟩,
    ⟨15, ⟨(some 63), .op (.load 1 false (.tmp 62)), none⟩, []⟩,
    ⟨16, ⟨(some 64), .op (.iaddrS (.tmp 63) (.const (Value.int .i64 1)) 1), none⟩, []⟩,
    ⟨17, ⟨(some 65), .op (.load 1 false (.tmp 64)), none⟩, []⟩,
    ⟨18, ⟨(some 66), .op (.faddr (.tmp 1) 5), none⟩, []⟩,
    ⟨19, ⟨(some 67), .op (.load 1 false (.tmp 66)), none⟩, []⟩,
    ⟨20, ⟨(some 68), .op (.mv (.tmp 4)), none⟩, []⟩,
    ⟨21, ⟨(some 69), .op (.iaddrS (.tmp 67) (.tmp 68) 1), none⟩, []⟩,
    ⟨22, ⟨(some 70), .op (.load 1 false (.tmp 69)), none⟩, []⟩,
    ⟨23, ⟨(some 71), .op (.lits false 1 4 (Value.slice none 0 0) [(0, (.tmp 51)), (1, (.tmp 58)), (2, (.tmp 65)), (3, (.tmp 70))]), none⟩, []⟩,
    ⟨24, ⟨(some 72), .call (.func i_slices_Concat_L_int64) [(.tmp 71)], none⟩, []⟩,
    ⟨25, ⟨(some 73), .call (.func i_impl_words) [(.tmp 50), (.tmp 72)], none⟩, []⟩,
    ⟨26, ⟨(some 74), .op (.bin .add (.tmp 48) (.tmp 73)), none⟩, []⟩,
    ⟨27, ⟨(some 3), .op (.mv (.tmp 74)), none⟩, []⟩]
    [0, 0, 2, 0, 0, 16, 0, 112, 240, 496, 1008, 0, 2048, 0, 14336, 30720, 63488, 129024, 0, 262144, 0, 1835008, 3932160, 8388600, 16777214, 33554430, 67108863, 134217727]) (.kill [4, 5, 6, 48, 49, 50, 51, 52, 53, 54, 55, 56, 57, 58, 59, 60, 61, 62, 63, 64, 65, 66, 67, 68, 69, 70, 71, 72, 73, 74])))))))
  (.post (.reg [⟨(some 75), .op (.bin .add (.tmp 24) (.const (Value.int .i64 1))), none⟩,
    ⟨(some 24), .op (.mv (.tmp 75)), none⟩]) (.kill [75]))))) .nv)
def lo_impl_CheckerText_1 : AC := (.loop lb_impl_CheckerText_1)
def ac_impl_CheckerText : AC := (.seq (.post (.reg [⟨(some 1), .op (.box true (.tmp 0)), none⟩,
    ⟨(some 2), .op (.mv (.const (Value.string ⟨#[]⟩))), none⟩]) (.kill [0, 2]))
  (.seq (.seq (.post (.reg [⟨(some 9), .op (.load 6 true (.tmp 1)), none⟩,
    ⟨(some 10), .call (.func i_impl_ValidChecker) [(.tmp 9)], none⟩,
    ⟨(some 11), .op (.un .not (.tmp 10)), none⟩]) (.kill [9, 10]))
  (.cond (.tmp 11) (.ghost (.kill [1, 11]) (.seq (.reg [⟨(some 2), .op (.mv (.const (Value.string ⟨#[]⟩))), none⟩])
  .ret))
  (.ghost (.kill [11]) .skip)))
  (.seq (.post (.draw [⟨0, ⟨(some 12), .op (.faddr (.tmp 1) 2), none⟩, []⟩,
    ⟨1, ⟨(some 13), .op (.load 1 false (.tmp 12)), none⟩, []⟩,
    ⟨3, ⟨(some 15), .op (.faddr (.tmp 1) 0), none⟩, []⟩,
    ⟨4, ⟨(some 16), .op (.load 1 false (.tmp 15)), none⟩, []⟩,
    ⟨5, ⟨(some 17), .op (.faddr (.tmp 1) 1), none⟩, []⟩,
    ⟨6, ⟨(some 18), .op (.load 1 false (.tmp 17)), none⟩, []⟩,
    ⟨2, ⟨(some 14), .call (.func i_impl_size_bool) [(.tmp 13)], none⟩, [4, 6]⟩,
    ⟨7, ⟨(some 19), .op (.lits false 1 3 (Value.int .i64 0) [(0, (.tmp 14)), (1, (.tmp 16)), (2, (.tmp 18))]), none⟩, []⟩,
    ⟨8, ⟨(some 20), .call (.func i_impl_words) [(.const (Value.string ⟨#[99, 104, 101, 99, 107, 101, 114]⟩)), (.tmp 19)], none⟩, []⟩,
    ⟨9, ⟨(some 3), .op (.mv (.tmp 20)), none⟩, []⟩]
    [0, 1, 3, 0, 8, 0, 32, 127, 255, 511]) (.kill [12, 13, 14, 15, 16, 17, 18, 19, 20]))
  (.seq (.seq (.post (.reg [⟨(some 21), .op (.faddr (.tmp 1) 2), none⟩,
    ⟨(some 22), .op (.load 1 false (.tmp 21)), none⟩,
    ⟨(some 23), .op (.len false (.tmp 22)), none⟩,
    ⟨(some 24), .op (.mv (.const (Value.int .i64 0))), none⟩]) (.kill [21]))
  (.post (.block 0 (.ghost .nv lo_impl_CheckerText_1)) .nv))
  (.ghost (.kill [1, 22, 23, 24]) (.seq (.post (.reg [⟨(some 76), .op (.mv (.tmp 3)), none⟩,
    ⟨(some 2), .op (.mv (.tmp 76)), none⟩]) (.kill [3, 76]))
  .ret))))))
theorem cf_impl_CheckerText : chkFn Tryd.prog i_impl_CheckerText ac_impl_CheckerText [.tmp 2] 77 = true := by decide +kernel
def fa_impl_CheckerText : FnA := ⟨ac_impl_CheckerText, [.tmp 2], 77, false, true, [], .any, none⟩

/-- The checked code of laws eqBoolS. -/
def lb_laws_eqBoolS_0 : AC := (.seq (.seq (.post (.reg [⟨(some 11), .op (.mv (.tmp 5)), none⟩,
    ⟨(some 12), .op (.mv (.tmp 0)), none⟩,
    ⟨(some 13), .op (.len false (.tmp 12)), none⟩,
    ⟨(some 14), .op (.bin .lss (.tmp 11) (.tmp 13)), none⟩]) (.kill [11, 12, 13]))
  (.cond (.tmp 14) (.ghost (.kill [14]) .skip)
  (.ghost (.kill [0, 1, 5, 14]) (.exit 0))))
  (.seq (.block 1 (.seq (.post (.draw [⟨0, ⟨(some 17), .op (.mv (.tmp 0)), none⟩, []⟩,
    ⟨1, ⟨(some 18), .op (.mv (.tmp 5)), none⟩, []⟩,
    ⟨2, ⟨(some 19), .op (.iaddrS (.tmp 17) (.tmp 18) 1), none⟩, []⟩,
    ⟨3, ⟨(some 20), .op (.load 1 false (.tmp 19)), none⟩, []⟩,
    ⟨4, ⟨(some 21), .op (.mv (.tmp 1)), none⟩, []⟩,
    ⟨5, ⟨(some 22), .op (.mv (.tmp 5)), none⟩, []⟩,
    ⟨6, ⟨(some 23), .op (.iaddrS (.tmp 21) (.tmp 22) 1), none⟩, []⟩,
    ⟨7, ⟨(some 24), .op (.load 1 false (.tmp 23)), none⟩, []⟩,
    ⟨8, ⟨(some 25), .op (.eqb true (.tmp 20) (.tmp 24)), none⟩, []⟩]
    [0, 0, 3, 7, 0, 0, 48, 112, 255]) (.kill [17, 18, 19, 20, 21, 22, 23, 24]))
  (.cond (.tmp 25) (.ghost (.kill [0, 1, 5, 25]) (.seq (.reg [⟨(some 4), .op (.mv (.const (Value.bool false))), none⟩])
  .ret))
  (.ghost (.kill [25]) .skip))))
  (.post (.reg [⟨(some 15), .op (.mv (.tmp 5)), none⟩,
    ⟨(some 16), .op (.bin .add (.tmp 15) (.const (Value.int .i64 1))), none⟩,
    ⟨(some 5), .op (.mv (.tmp 16)), none⟩]) (.kill [15, 16]))))
def lo_laws_eqBoolS_0 : AC := (.loop lb_laws_eqBoolS_0)
def ac_laws_eqBoolS : AC := (.seq (.post (.reg [⟨(some 4), .op (.mv (.const (Value.bool false))), none⟩]) (.kill [4]))
  (.seq (.seq (.post (.reg [⟨(some 6), .op (.mv (.tmp 0)), none⟩,
    ⟨(some 7), .op (.len false (.tmp 6)), none⟩,
    ⟨(some 8), .op (.mv (.tmp 1)), none⟩,
    ⟨(some 9), .op (.len false (.tmp 8)), none⟩,
    ⟨(some 10), .op (.bin .neq (.tmp 7) (.tmp 9)), none⟩]) (.kill [6, 7, 8, 9]))
  (.cond (.tmp 10) (.ghost (.kill [0, 1, 10]) (.seq (.reg [⟨(some 4), .op (.mv (.const (Value.bool false))), none⟩])
  .ret))
  (.ghost (.kill [10]) .skip)))
  (.seq (.seq (.reg [⟨(some 5), .op (.mv (.const (Value.int .i64 0))), none⟩])
  (.block 0 lo_laws_eqBoolS_0))
  (.ghost (.kill [0, 1, 5]) (.seq (.reg [⟨(some 4), .op (.mv (.const (Value.bool true))), none⟩])
  .ret)))))
theorem cf_laws_eqBoolS : chkFn Tryd.prog i_laws_eqBoolS ac_laws_eqBoolS [.tmp 4] 26 = true := by decide +kernel
def fa_laws_eqBoolS : FnA := ⟨ac_laws_eqBoolS, [.tmp 4], 26, false, true, [], .any, none⟩

/-- The checked code of laws eqPush. -/
def ac_laws_eqPush : AC := (.seq (.post (.reg [⟨(some 2), .op (.box true (.tmp 0)), none⟩,
    ⟨(some 3), .op (.box true (.tmp 1)), none⟩,
    ⟨(some 4), .op (.mv (.const (Value.bool false))), none⟩]) (.kill [0, 1, 4]))
  (.seq (.seq (.post (.reg [⟨(some 5), .op (.faddr (.tmp 2) 0), none⟩,
    ⟨(some 6), .op (.load 1 false (.tmp 5)), none⟩,
    ⟨(some 7), .op (.faddr (.tmp 3) 0), none⟩,
    ⟨(some 8), .op (.load 1 false (.tmp 7)), none⟩,
    ⟨(some 9), .op (.bin .neq (.tmp 6) (.tmp 8)), none⟩]) (.kill [5, 6, 7, 8]))
  (.cond (.tmp 9) (.ghost (.kill [2, 3, 9]) (.seq (.reg [⟨(some 4), .op (.mv (.const (Value.bool false))), none⟩])
  .ret))
  (.ghost (.kill [9]) .skip)))
  (.seq (.seq (.post (.reg [⟨(some 10), .op (.faddr (.tmp 2) 1), none⟩,
    ⟨(some 11), .op (.load 1 false (.tmp 10)), none⟩,
    ⟨(some 12), .op (.faddr (.tmp 3) 1), none⟩,
    ⟨(some 13), .op (.load 1 false (.tmp 12)), none⟩,
    ⟨(some 14), .op (.bin .neq (.tmp 11) (.tmp 13)), none⟩]) (.kill [2, 3, 10, 11, 12, 13]))
  (.cond (.tmp 14) (.ghost (.kill [14]) (.seq (.reg [⟨(some 4), .op (.mv (.const (Value.bool false))), none⟩])
  .ret))
  (.ghost (.kill [14]) .skip)))
  (.seq (.reg [⟨(some 4), .op (.mv (.const (Value.bool true))), none⟩])
  .ret))))
theorem cf_laws_eqPush : chkFn Tryd.prog i_laws_eqPush ac_laws_eqPush [.tmp 4] 15 = true := by decide +kernel
def fa_laws_eqPush : FnA := ⟨ac_laws_eqPush, [.tmp 4], 15, false, true, [], .any, none⟩

/-- The checked code of laws eqPushS. -/
def lb_laws_eqPushS_0 : AC := (.seq (.seq (.post (.reg [⟨(some 11), .op (.mv (.tmp 5)), none⟩,
    ⟨(some 12), .op (.mv (.tmp 0)), none⟩,
    ⟨(some 13), .op (.len false (.tmp 12)), none⟩,
    ⟨(some 14), .op (.bin .lss (.tmp 11) (.tmp 13)), none⟩]) (.kill [11, 12, 13]))
  (.cond (.tmp 14) (.ghost (.kill [14]) .skip)
  (.ghost (.kill [0, 1, 5, 14]) (.exit 0))))
  (.seq (.block 1 (.seq (.post (.draw [⟨0, ⟨(some 17), .op (.mv (.tmp 0)), none⟩, []⟩,
    ⟨1, ⟨(some 18), .op (.mv (.tmp 5)), none⟩, []⟩,
    ⟨2, ⟨(some 19), .op (.iaddrS (.tmp 17) (.tmp 18) 2), none⟩, []⟩,
    ⟨3, ⟨(some 20), .op (.load 2 true (.tmp 19)), none⟩, []⟩,
    ⟨4, ⟨(some 21), .op (.mv (.tmp 1)), none⟩, []⟩,
    ⟨5, ⟨(some 22), .op (.mv (.tmp 5)), none⟩, []⟩,
    ⟨6, ⟨(some 23), .op (.iaddrS (.tmp 21) (.tmp 22) 2), none⟩, []⟩,
    ⟨7, ⟨(some 24), .op (.load 2 true (.tmp 23)), none⟩, []⟩,
    ⟨8, ⟨(some 25), .call (.func i_laws_eqPush) [(.tmp 20), (.tmp 24)], none⟩, []⟩,
    ⟨9, ⟨(some 26), .op (.un .not (.tmp 25)), none⟩, []⟩]
    [0, 0, 3, 7, 0, 0, 48, 112, 255, 511]) (.kill [17, 18, 19, 20, 21, 22, 23, 24, 25]))
  (.cond (.tmp 26) (.ghost (.kill [0, 1, 5, 26]) (.seq (.reg [⟨(some 4), .op (.mv (.const (Value.bool false))), none⟩])
  .ret))
  (.ghost (.kill [26]) .skip))))
  (.post (.reg [⟨(some 15), .op (.mv (.tmp 5)), none⟩,
    ⟨(some 16), .op (.bin .add (.tmp 15) (.const (Value.int .i64 1))), none⟩,
    ⟨(some 5), .op (.mv (.tmp 16)), none⟩]) (.kill [15, 16]))))
def lo_laws_eqPushS_0 : AC := (.loop lb_laws_eqPushS_0)
def ac_laws_eqPushS : AC := (.seq (.post (.reg [⟨(some 4), .op (.mv (.const (Value.bool false))), none⟩]) (.kill [4]))
  (.seq (.seq (.post (.reg [⟨(some 6), .op (.mv (.tmp 0)), none⟩,
    ⟨(some 7), .op (.len false (.tmp 6)), none⟩,
    ⟨(some 8), .op (.mv (.tmp 1)), none⟩,
    ⟨(some 9), .op (.len false (.tmp 8)), none⟩,
    ⟨(some 10), .op (.bin .neq (.tmp 7) (.tmp 9)), none⟩]) (.kill [6, 7, 8, 9]))
  (.cond (.tmp 10) (.ghost (.kill [0, 1, 10]) (.seq (.reg [⟨(some 4), .op (.mv (.const (Value.bool false))), none⟩])
  .ret))
  (.ghost (.kill [10]) .skip)))
  (.seq (.seq (.reg [⟨(some 5), .op (.mv (.const (Value.int .i64 0))), none⟩])
  (.block 0 lo_laws_eqPushS_0))
  (.ghost (.kill [0, 1, 5]) (.seq (.reg [⟨(some 4), .op (.mv (.const (Value.bool true))), none⟩])
  .ret)))))
theorem cf_laws_eqPushS : chkFn Tryd.prog i_laws_eqPushS ac_laws_eqPushS [.tmp 4] 27 = true := by decide +kernel
def fa_laws_eqPushS : FnA := ⟨ac_laws_eqPushS, [.tmp 4], 27, false, true, [], .any, none⟩

/-- The checked code of laws eqPushSS. -/
def lb_laws_eqPushSS_0 : AC := (.seq (.seq (.post (.reg [⟨(some 11), .op (.mv (.tmp 5)), none⟩,
    ⟨(some 12), .op (.mv (.tmp 0)), none⟩,
    ⟨(some 13), .op (.len false (.tmp 12)), none⟩,
    ⟨(some 14), .op (.bin .lss (.tmp 11) (.tmp 13)), none⟩]) (.kill [11, 12, 13]))
  (.cond (.tmp 14) (.ghost (.kill [14]) .skip)
  (.ghost (.kill [0, 1, 5, 14]) (.exit 0))))
  (.seq (.block 1 (.seq (.post (.draw [⟨0, ⟨(some 17), .op (.mv (.tmp 0)), none⟩, []⟩,
    ⟨1, ⟨(some 18), .op (.mv (.tmp 5)), none⟩, []⟩,
    ⟨2, ⟨(some 19), .op (.iaddrS (.tmp 17) (.tmp 18) 1), none⟩, []⟩,
    ⟨3, ⟨(some 20), .op (.load 1 false (.tmp 19)), none⟩, []⟩,
    ⟨4, ⟨(some 21), .op (.mv (.tmp 1)), none⟩, []⟩,
    ⟨5, ⟨(some 22), .op (.mv (.tmp 5)), none⟩, []⟩,
    ⟨6, ⟨(some 23), .op (.iaddrS (.tmp 21) (.tmp 22) 1), none⟩, []⟩,
    ⟨7, ⟨(some 24), .op (.load 1 false (.tmp 23)), none⟩, []⟩,
    ⟨8, ⟨(some 25), .call (.func i_laws_eqPushS) [(.tmp 20), (.tmp 24)], none⟩, []⟩,
    ⟨9, ⟨(some 26), .op (.un .not (.tmp 25)), none⟩, []⟩]
    [0, 0, 3, 7, 0, 0, 48, 112, 255, 511]) (.kill [17, 18, 19, 20, 21, 22, 23, 24, 25]))
  (.cond (.tmp 26) (.ghost (.kill [0, 1, 5, 26]) (.seq (.reg [⟨(some 4), .op (.mv (.const (Value.bool false))), none⟩])
  .ret))
  (.ghost (.kill [26]) .skip))))
  (.post (.reg [⟨(some 15), .op (.mv (.tmp 5)), none⟩,
    ⟨(some 16), .op (.bin .add (.tmp 15) (.const (Value.int .i64 1))), none⟩,
    ⟨(some 5), .op (.mv (.tmp 16)), none⟩]) (.kill [15, 16]))))
def lo_laws_eqPushSS_0 : AC := (.loop lb_laws_eqPushSS_0)
def ac_laws_eqPushSS : AC := (.seq (.post (.reg [⟨(some 4), .op (.mv (.const (Value.bool false))), none⟩]) (.kill [4]))
  (.seq (.seq (.post (.reg [⟨(some 6), .op (.mv (.tmp 0)), none⟩,
    ⟨(some 7), .op (.len false (.tmp 6)), none⟩,
    ⟨(some 8), .op (.mv (.tmp 1)), none⟩,
    ⟨(some 9), .op (.len false (.tmp 8)), none⟩,
    ⟨(some 10), .op (.bin .neq (.tmp 7) (.tmp 9)), none⟩]) (.kill [6, 7, 8, 9]))
  (.cond (.tmp 10) (.ghost (.kill [0, 1, 10]) (.seq (.reg [⟨(some 4), .op (.mv (.const (Value.bool false))), none⟩])
  .ret))
  (.ghost (.kill [10]) .skip)))
  (.seq (.seq (.reg [⟨(some 5), .op (.mv (.const (Value.int .i64 0))), none⟩])
  (.block 0 lo_laws_eqPushSS_0))
  (.ghost (.kill [0, 1, 5]) (.seq (.reg [⟨(some 4), .op (.mv (.const (Value.bool true))), none⟩])
  .ret)))))
theorem cf_laws_eqPushSS : chkFn Tryd.prog i_laws_eqPushSS ac_laws_eqPushSS [.tmp 4] 27 = true := by decide +kernel
def fa_laws_eqPushSS : FnA := ⟨ac_laws_eqPushSS, [.tmp 4], 27, false, true, [], .any, none⟩

/-- The checked code of laws eqInt64S. -/
def lb_laws_eqInt64S_0 : AC := (.seq (.seq (.post (.reg [⟨(some 11), .op (.mv (.tmp 5)), none⟩,
    ⟨(some 12), .op (.mv (.tmp 0)), none⟩,
    ⟨(some 13), .op (.len false (.tmp 12)), none⟩,
    ⟨(some 14), .op (.bin .lss (.tmp 11) (.tmp 13)), none⟩]) (.kill [11, 12, 13]))
  (.cond (.tmp 14) (.ghost (.kill [14]) .skip)
  (.ghost (.kill [0, 1, 5, 14]) (.exit 0))))
  (.seq (.block 1 (.seq (.post (.draw [⟨0, ⟨(some 17), .op (.mv (.tmp 0)), none⟩, []⟩,
    ⟨1, ⟨(some 18), .op (.mv (.tmp 5)), none⟩, []⟩,
    ⟨2, ⟨(some 19), .op (.iaddrS (.tmp 17) (.tmp 18) 1), none⟩, []⟩,
    ⟨3, ⟨(some 20), .op (.load 1 false (.tmp 19)), none⟩, []⟩,
    ⟨4, ⟨(some 21), .op (.mv (.tmp 1)), none⟩, []⟩,
    ⟨5, ⟨(some 22), .op (.mv (.tmp 5)), none⟩, []⟩,
    ⟨6, ⟨(some 23), .op (.iaddrS (.tmp 21) (.tmp 22) 1), none⟩, []⟩,
    ⟨7, ⟨(some 24), .op (.load 1 false (.tmp 23)), none⟩, []⟩,
    ⟨8, ⟨(some 25), .op (.bin .neq (.tmp 20) (.tmp 24)), none⟩, []⟩]
    [0, 0, 3, 7, 0, 0, 48, 112, 255]) (.kill [17, 18, 19, 20, 21, 22, 23, 24]))
  (.cond (.tmp 25) (.ghost (.kill [0, 1, 5, 25]) (.seq (.reg [⟨(some 4), .op (.mv (.const (Value.bool false))), none⟩])
  .ret))
  (.ghost (.kill [25]) .skip))))
  (.post (.reg [⟨(some 15), .op (.mv (.tmp 5)), none⟩,
    ⟨(some 16), .op (.bin .add (.tmp 15) (.const (Value.int .i64 1))), none⟩,
    ⟨(some 5), .op (.mv (.tmp 16)), none⟩]) (.kill [15, 16]))))
def lo_laws_eqInt64S_0 : AC := (.loop lb_laws_eqInt64S_0)
def ac_laws_eqInt64S : AC := (.seq (.post (.reg [⟨(some 4), .op (.mv (.const (Value.bool false))), none⟩]) (.kill [4]))
  (.seq (.seq (.post (.reg [⟨(some 6), .op (.mv (.tmp 0)), none⟩,
    ⟨(some 7), .op (.len false (.tmp 6)), none⟩,
    ⟨(some 8), .op (.mv (.tmp 1)), none⟩,
    ⟨(some 9), .op (.len false (.tmp 8)), none⟩,
    ⟨(some 10), .op (.bin .neq (.tmp 7) (.tmp 9)), none⟩]) (.kill [6, 7, 8, 9]))
  (.cond (.tmp 10) (.ghost (.kill [0, 1, 10]) (.seq (.reg [⟨(some 4), .op (.mv (.const (Value.bool false))), none⟩])
  .ret))
  (.ghost (.kill [10]) .skip)))
  (.seq (.seq (.reg [⟨(some 5), .op (.mv (.const (Value.int .i64 0))), none⟩])
  (.block 0 lo_laws_eqInt64S_0))
  (.ghost (.kill [0, 1, 5]) (.seq (.reg [⟨(some 4), .op (.mv (.const (Value.bool true))), none⟩])
  .ret)))))
theorem cf_laws_eqInt64S : chkFn Tryd.prog i_laws_eqInt64S ac_laws_eqInt64S [.tmp 4] 26 = true := by decide +kernel
def fa_laws_eqInt64S : FnA := ⟨ac_laws_eqInt64S, [.tmp 4], 26, false, true, [], .any, none⟩

/-- The checked code of laws eqInt64SS. -/
def lb_laws_eqInt64SS_0 : AC := (.seq (.seq (.post (.reg [⟨(some 11), .op (.mv (.tmp 5)), none⟩,
    ⟨(some 12), .op (.mv (.tmp 0)), none⟩,
    ⟨(some 13), .op (.len false (.tmp 12)), none⟩,
    ⟨(some 14), .op (.bin .lss (.tmp 11) (.tmp 13)), none⟩]) (.kill [11, 12, 13]))
  (.cond (.tmp 14) (.ghost (.kill [14]) .skip)
  (.ghost (.kill [0, 1, 5, 14]) (.exit 0))))
  (.seq (.block 1 (.seq (.post (.draw [⟨0, ⟨(some 17), .op (.mv (.tmp 0)), none⟩, []⟩,
    ⟨1, ⟨(some 18), .op (.mv (.tmp 5)), none⟩, []⟩,
    ⟨2, ⟨(some 19), .op (.iaddrS (.tmp 17) (.tmp 18) 1), none⟩, []⟩,
    ⟨3, ⟨(some 20), .op (.load 1 false (.tmp 19)), none⟩, []⟩,
    ⟨4, ⟨(some 21), .op (.mv (.tmp 1)), none⟩, []⟩,
    ⟨5, ⟨(some 22), .op (.mv (.tmp 5)), none⟩, []⟩,
    ⟨6, ⟨(some 23), .op (.iaddrS (.tmp 21) (.tmp 22) 1), none⟩, []⟩,
    ⟨7, ⟨(some 24), .op (.load 1 false (.tmp 23)), none⟩, []⟩,
    ⟨8, ⟨(some 25), .call (.func i_laws_eqInt64S) [(.tmp 20), (.tmp 24)], none⟩, []⟩,
    ⟨9, ⟨(some 26), .op (.un .not (.tmp 25)), none⟩, []⟩]
    [0, 0, 3, 7, 0, 0, 48, 112, 255, 511]) (.kill [17, 18, 19, 20, 21, 22, 23, 24, 25]))
  (.cond (.tmp 26) (.ghost (.kill [0, 1, 5, 26]) (.seq (.reg [⟨(some 4), .op (.mv (.const (Value.bool false))), none⟩])
  .ret))
  (.ghost (.kill [26]) .skip))))
  (.post (.reg [⟨(some 15), .op (.mv (.tmp 5)), none⟩,
    ⟨(some 16), .op (.bin .add (.tmp 15) (.const (Value.int .i64 1))), none⟩,
    ⟨(some 5), .op (.mv (.tmp 16)), none⟩]) (.kill [15, 16]))))
def lo_laws_eqInt64SS_0 : AC := (.loop lb_laws_eqInt64SS_0)
def ac_laws_eqInt64SS : AC := (.seq (.post (.reg [⟨(some 4), .op (.mv (.const (Value.bool false))), none⟩]) (.kill [4]))
  (.seq (.seq (.post (.reg [⟨(some 6), .op (.mv (.tmp 0)), none⟩,
    ⟨(some 7), .op (.len false (.tmp 6)), none⟩,
    ⟨(some 8), .op (.mv (.tmp 1)), none⟩,
    ⟨(some 9), .op (.len false (.tmp 8)), none⟩,
    ⟨(some 10), .op (.bin .neq (.tmp 7) (.tmp 9)), none⟩]) (.kill [6, 7, 8, 9]))
  (.cond (.tmp 10) (.ghost (.kill [0, 1, 10]) (.seq (.reg [⟨(some 4), .op (.mv (.const (Value.bool false))), none⟩])
  .ret))
  (.ghost (.kill [10]) .skip)))
  (.seq (.seq (.reg [⟨(some 5), .op (.mv (.const (Value.int .i64 0))), none⟩])
  (.block 0 lo_laws_eqInt64SS_0))
  (.ghost (.kill [0, 1, 5]) (.seq (.reg [⟨(some 4), .op (.mv (.const (Value.bool true))), none⟩])
  .ret)))))
theorem cf_laws_eqInt64SS : chkFn Tryd.prog i_laws_eqInt64SS ac_laws_eqInt64SS [.tmp 4] 27 = true := by decide +kernel
def fa_laws_eqInt64SS : FnA := ⟨ac_laws_eqInt64SS, [.tmp 4], 27, false, true, [], .any, none⟩

/-- The checked code of laws eqInt64SSS. -/
def lb_laws_eqInt64SSS_0 : AC := (.seq (.seq (.post (.reg [⟨(some 11), .op (.mv (.tmp 5)), none⟩,
    ⟨(some 12), .op (.mv (.tmp 0)), none⟩,
    ⟨(some 13), .op (.len false (.tmp 12)), none⟩,
    ⟨(some 14), .op (.bin .lss (.tmp 11) (.tmp 13)), none⟩]) (.kill [11, 12, 13]))
  (.cond (.tmp 14) (.ghost (.kill [14]) .skip)
  (.ghost (.kill [0, 1, 5, 14]) (.exit 0))))
  (.seq (.block 1 (.seq (.post (.draw [⟨0, ⟨(some 17), .op (.mv (.tmp 0)), none⟩, []⟩,
    ⟨1, ⟨(some 18), .op (.mv (.tmp 5)), none⟩, []⟩,
    ⟨2, ⟨(some 19), .op (.iaddrS (.tmp 17) (.tmp 18) 1), none⟩, []⟩,
    ⟨3, ⟨(some 20), .op (.load 1 false (.tmp 19)), none⟩, []⟩,
    ⟨4, ⟨(some 21), .op (.mv (.tmp 1)), none⟩, []⟩,
    ⟨5, ⟨(some 22), .op (.mv (.tmp 5)), none⟩, []⟩,
    ⟨6, ⟨(some 23), .op (.iaddrS (.tmp 21) (.tmp 22) 1), none⟩, []⟩,
    ⟨7, ⟨(some 24), .op (.load 1 false (.tmp 23)), none⟩, []⟩,
    ⟨8, ⟨(some 25), .call (.func i_laws_eqInt64SS) [(.tmp 20), (.tmp 24)], none⟩, []⟩,
    ⟨9, ⟨(some 26), .op (.un .not (.tmp 25)), none⟩, []⟩]
    [0, 0, 3, 7, 0, 0, 48, 112, 255, 511]) (.kill [17, 18, 19, 20, 21, 22, 23, 24, 25]))
  (.cond (.tmp 26) (.ghost (.kill [0, 1, 5, 26]) (.seq (.reg [⟨(some 4), .op (.mv (.const (Value.bool false))), none⟩])
  .ret))
  (.ghost (.kill [26]) .skip))))
  (.post (.reg [⟨(some 15), .op (.mv (.tmp 5)), none⟩,
    ⟨(some 16), .op (.bin .add (.tmp 15) (.const (Value.int .i64 1))), none⟩,
    ⟨(some 5), .op (.mv (.tmp 16)), none⟩]) (.kill [15, 16]))))
def lo_laws_eqInt64SSS_0 : AC := (.loop lb_laws_eqInt64SSS_0)
def ac_laws_eqInt64SSS : AC := (.seq (.post (.reg [⟨(some 4), .op (.mv (.const (Value.bool false))), none⟩]) (.kill [4]))
  (.seq (.seq (.post (.reg [⟨(some 6), .op (.mv (.tmp 0)), none⟩,
    ⟨(some 7), .op (.len false (.tmp 6)), none⟩,
    ⟨(some 8), .op (.mv (.tmp 1)), none⟩,
    ⟨(some 9), .op (.len false (.tmp 8)), none⟩,
    ⟨(some 10), .op (.bin .neq (.tmp 7) (.tmp 9)), none⟩]) (.kill [6, 7, 8, 9]))
  (.cond (.tmp 10) (.ghost (.kill [0, 1, 10]) (.seq (.reg [⟨(some 4), .op (.mv (.const (Value.bool false))), none⟩])
  .ret))
  (.ghost (.kill [10]) .skip)))
  (.seq (.seq (.reg [⟨(some 5), .op (.mv (.const (Value.int .i64 0))), none⟩])
  (.block 0 lo_laws_eqInt64SSS_0))
  (.ghost (.kill [0, 1, 5]) (.seq (.reg [⟨(some 4), .op (.mv (.const (Value.bool true))), none⟩])
  .ret)))))
theorem cf_laws_eqInt64SSS : chkFn Tryd.prog i_laws_eqInt64SSS ac_laws_eqInt64SSS [.tmp 4] 27 = true := by decide +kernel
def fa_laws_eqInt64SSS : FnA := ⟨ac_laws_eqInt64SSS, [.tmp 4], 27, false, true, [], .any, none⟩

/-- The checked code of laws eqChecker. -/
def ac_laws_eqChecker : AC := (.seq (.post (.reg [⟨(some 2), .op (.box true (.tmp 0)), none⟩,
    ⟨(some 3), .op (.box true (.tmp 1)), none⟩,
    ⟨(some 4), .op (.mv (.const (Value.bool false))), none⟩]) (.kill [0, 1, 4]))
  (.seq (.seq (.post (.reg [⟨(some 5), .op (.faddr (.tmp 2) 0), none⟩,
    ⟨(some 6), .op (.load 1 false (.tmp 5)), none⟩,
    ⟨(some 7), .op (.faddr (.tmp 3) 0), none⟩,
    ⟨(some 8), .op (.load 1 false (.tmp 7)), none⟩,
    ⟨(some 9), .op (.bin .neq (.tmp 6) (.tmp 8)), none⟩]) (.kill [5, 6, 7, 8]))
  (.cond (.tmp 9) (.ghost (.kill [2, 3, 9]) (.seq (.reg [⟨(some 4), .op (.mv (.const (Value.bool false))), none⟩])
  .ret))
  (.ghost (.kill [9]) .skip)))
  (.seq (.seq (.post (.reg [⟨(some 10), .op (.faddr (.tmp 2) 1), none⟩,
    ⟨(some 11), .op (.load 1 false (.tmp 10)), none⟩,
    ⟨(some 12), .op (.faddr (.tmp 3) 1), none⟩,
    ⟨(some 13), .op (.load 1 false (.tmp 12)), none⟩,
    ⟨(some 14), .op (.bin .neq (.tmp 11) (.tmp 13)), none⟩]) (.kill [10, 11, 12, 13]))
  (.cond (.tmp 14) (.ghost (.kill [2, 3, 14]) (.seq (.reg [⟨(some 4), .op (.mv (.const (Value.bool false))), none⟩])
  .ret))
  (.ghost (.kill [14]) .skip)))
  (.seq (.seq (.post (.reg [⟨(some 15), .op (.faddr (.tmp 2) 2), none⟩,
    ⟨(some 16), .op (.load 1 false (.tmp 15)), none⟩,
    ⟨(some 17), .op (.faddr (.tmp 3) 2), none⟩,
    ⟨(some 18), .op (.load 1 false (.tmp 17)), none⟩,
    ⟨(some 19), .call (.func i_laws_eqBoolS) [(.tmp 16), (.tmp 18)], none⟩,
    ⟨(some 20), .op (.un .not (.tmp 19)), none⟩]) (.kill [15, 16, 17, 18, 19]))
  (.cond (.tmp 20) (.ghost (.kill [2, 3, 20]) (.seq (.reg [⟨(some 4), .op (.mv (.const (Value.bool false))), none⟩])
  .ret))
  (.ghost (.kill [20]) .skip)))
  (.seq (.seq (.post (.reg [⟨(some 21), .op (.faddr (.tmp 2) 3), none⟩,
    ⟨(some 22), .op (.load 1 false (.tmp 21)), none⟩,
    ⟨(some 23), .op (.faddr (.tmp 3) 3), none⟩,
    ⟨(some 24), .op (.load 1 false (.tmp 23)), none⟩,
    ⟨(some 25), .call (.func i_laws_eqPushSS) [(.tmp 22), (.tmp 24)], none⟩,
    ⟨(some 26), .op (.un .not (.tmp 25)), none⟩]) (.kill [21, 22, 23, 24, 25]))
  (.cond (.tmp 26) (.ghost (.kill [2, 3, 26]) (.seq (.reg [⟨(some 4), .op (.mv (.const (Value.bool false))), none⟩])
  .ret))
  (.ghost (.kill [26]) .skip)))
  (.seq (.seq (.post (.reg [⟨(some 27), .op (.faddr (.tmp 2) 4), none⟩,
    ⟨(some 28), .op (.load 1 false (.tmp 27)), none⟩,
    ⟨(some 29), .op (.faddr (.tmp 3) 4), none⟩,
    ⟨(some 30), .op (.load 1 false (.tmp 29)), none⟩,
    ⟨(some 31), .call (.func i_laws_eqInt64SSS) [(.tmp 28), (.tmp 30)], none⟩,
    ⟨(some 32), .op (.un .not (.tmp 31)), none⟩]) (.kill [27, 28, 29, 30, 31]))
  (.cond (.tmp 32) (.ghost (.kill [2, 3, 32]) (.seq (.reg [⟨(some 4), .op (.mv (.const (Value.bool false))), none⟩])
  .ret))
  (.ghost (.kill [32]) .skip)))
  (.seq (.seq (.post (.reg [⟨(some 33), .op (.faddr (.tmp 2) 5), none⟩,
    ⟨(some 34), .op (.load 1 false (.tmp 33)), none⟩,
    ⟨(some 35), .op (.faddr (.tmp 3) 5), none⟩,
    ⟨(some 36), .op (.load 1 false (.tmp 35)), none⟩,
    ⟨(some 37), .call (.func i_laws_eqInt64SS) [(.tmp 34), (.tmp 36)], none⟩,
    ⟨(some 38), .op (.un .not (.tmp 37)), none⟩]) (.kill [2, 3, 33, 34, 35, 36, 37]))
  (.cond (.tmp 38) (.ghost (.kill [38]) (.seq (.reg [⟨(some 4), .op (.mv (.const (Value.bool false))), none⟩])
  .ret))
  (.ghost (.kill [38]) .skip)))
  (.seq (.reg [⟨(some 4), .op (.mv (.const (Value.bool true))), none⟩])
  .ret))))))))
theorem cf_laws_eqChecker : chkFn Tryd.prog i_laws_eqChecker ac_laws_eqChecker [.tmp 4] 39 = true := by decide +kernel
def fa_laws_eqChecker : FnA := ⟨ac_laws_eqChecker, [.tmp 4], 39, false, true, [], .any, none⟩

/-- The checked code of laws FnExactCheckerText. -/
def ac_laws_FnExactCheckerText : AC := (.seq (.post (.reg [⟨(some 1), .op (.box true (.tmp 0)), none⟩,
    ⟨(some 2), .op (.mv (.const (Value.bool false))), none⟩]) (.kill [0, 2]))
  (.seq (.reg [⟨(some 3), .op (.mv (.const (Value.int .i64 1048576))), none⟩])
  (.seq (.post (.reg [⟨(some 7), .op (.load 6 true (.tmp 1)), none⟩,
    ⟨(some 8), .op (.mv (.tmp 3)), none⟩,
    ⟨(some 9), .call (.func i_laws_szChecker) [(.tmp 7), (.tmp 8)], none⟩,
    ⟨(some 3), .op (.mv (.tmp 9)), none⟩]) (.kill [7, 8, 9]))
  (.seq (.seq (.post (.reg [⟨(some 10), .op (.mv (.tmp 3)), none⟩,
    ⟨(some 11), .op (.bin .lss (.tmp 10) (.const (Value.int .i64 0))), none⟩]) (.kill [3, 10]))
  (.cond (.tmp 11) (.ghost (.kill [1, 11]) (.seq (.reg [⟨(some 2), .op (.mv (.const (Value.bool true))), none⟩])
  .ret))
  (.ghost (.kill [11]) .skip)))
  (.seq (.post (.reg [⟨(some 12), .op (.load 6 true (.tmp 1)), none⟩,
    ⟨(some 13), .call (.func i_laws_toChecker) [(.tmp 12)], none⟩,
    ⟨(some 14), .call (.func i_spec_CheckerText) [(.tmp 13)], none⟩,
    ⟨(some 4), .op (.mv (.tmp 14)), none⟩]) (.kill [12, 13, 14]))
  (.seq (.post (.reg [⟨(some 15), .op (.load 6 true (.tmp 1)), none⟩,
    ⟨(some 16), .call (.func i_laws_toChecker) [(.tmp 15)], none⟩,
    ⟨(some 5), .op (.alloc (Value.agg #[Value.int .i64 0, Value.int .i64 0, Value.slice none 0 0, Value.slice none 0 0, Value.slice none 0 0, Value.slice none 0 0])), none⟩,
    ⟨none, .op (.store 6 (.tmp 5) (.tmp 16)), none⟩]) (.kill [15, 16]))
  (.seq (.post (.reg [⟨(some 17), .op (.load 6 true (.tmp 5)), none⟩,
    ⟨(some 18), .call (.func i_impl_CheckerText) [(.tmp 17)], none⟩,
    ⟨(some 6), .op (.mv (.tmp 18)), none⟩]) (.kill [17, 18]))
  (.seq (.seq (.post (.reg [⟨(some 19), .op (.mv (.tmp 6)), none⟩,
    ⟨(some 20), .op (.mv (.tmp 4)), none⟩,
    ⟨(some 21), .op (.bin .neq (.tmp 19) (.tmp 20)), none⟩]) (.kill [4, 6, 19, 20]))
  (.cond (.tmp 21) (.ghost (.kill [1, 5, 21]) (.seq (.reg [⟨(some 2), .op (.mv (.const (Value.bool false))), none⟩])
  .ret))
  (.ghost (.kill [21]) .skip)))
  (.seq (.seq (.post (.draw [⟨0, ⟨(some 22), .op (.load 6 true (.tmp 5)), none⟩, []⟩,
    ⟨1, ⟨(some 23), .op (.load 6 true (.tmp 1)), none⟩, []⟩,
    ⟨2, ⟨(some 24), .call (.func i_laws_toChecker) [(.tmp 23)], none⟩, [0]⟩,
    ⟨3, ⟨(some 25), .call (.func i_laws_eqChecker) [(.tmp 22), (.tmp 24)], none⟩, []⟩,
    ⟨4, ⟨(some 26), .op (.un .not (.tmp 25)), none⟩, []⟩]
    [0, 0, 2, 7, 15]) (.kill [1, 5, 22, 23, 24, 25]))
  (.cond (.tmp 26) (.ghost (.kill [26]) (.seq (.reg [⟨(some 2), .op (.mv (.const (Value.bool false))), none⟩])
  .ret))
  (.ghost (.kill [26]) .skip)))
  (.seq (.reg [⟨(some 2), .op (.mv (.const (Value.bool true))), none⟩])
  .ret))))))))))
theorem cf_laws_FnExactCheckerText : chkFn Tryd.prog i_laws_FnExactCheckerText ac_laws_FnExactCheckerText [.tmp 2] 27 = true := by decide +kernel
def fa_laws_FnExactCheckerText : FnA := ⟨ac_laws_FnExactCheckerText, [.tmp 2], 27, false, true, [], .any, none⟩

/-- The checked code of laws szLink. -/
def ac_laws_szLink : AC := (.seq (.post (.reg [⟨(some 2), .op (.box true (.tmp 0)), none⟩,
    ⟨(some 4), .op (.mv (.const (Value.int .i64 0))), none⟩]) (.kill [0, 4]))
  (.seq (.post (.reg [⟨(some 5), .op (.mv (.tmp 1)), none⟩,
    ⟨(some 6), .op (.faddr (.tmp 2) 2), none⟩,
    ⟨(some 7), .op (.load 1 false (.tmp 6)), none⟩,
    ⟨(some 8), .op (.len true (.tmp 7)), none⟩,
    ⟨(some 9), .op (.bin .sub (.tmp 5) (.tmp 8)), none⟩,
    ⟨(some 1), .op (.mv (.tmp 9)), none⟩]) (.kill [2, 5, 6, 7, 8, 9]))
  (.seq (.seq (.post (.reg [⟨(some 10), .op (.mv (.tmp 1)), none⟩,
    ⟨(some 11), .op (.bin .lss (.tmp 10) (.const (Value.int .i64 0))), none⟩]) (.kill [10]))
  (.cond (.tmp 11) (.ghost (.kill [1, 11]) (.seq (.reg [⟨(some 4), .op (.mv (.const (Value.int .i64 (-1)))), none⟩])
  .ret))
  (.ghost (.kill [11]) .skip)))
  (.seq (.post (.reg [⟨(some 12), .op (.mv (.tmp 1)), none⟩,
    ⟨(some 4), .op (.mv (.tmp 12)), none⟩]) (.kill [1, 12]))
  .ret))))
theorem cf_laws_szLink : chkFn Tryd.prog i_laws_szLink ac_laws_szLink [.tmp 4] 13 = true := by decide +kernel
def fa_laws_szLink : FnA := ⟨ac_laws_szLink, [.tmp 4], 13, false, true, [], .any, none⟩

/-- The checked code of laws szLinkS. -/
def lb_laws_szLinkS_0 : AC := (.seq (.seq (.post (.reg [⟨(some 12), .op (.mv (.tmp 5)), none⟩,
    ⟨(some 13), .op (.mv (.tmp 0)), none⟩,
    ⟨(some 14), .op (.len false (.tmp 13)), none⟩,
    ⟨(some 15), .op (.bin .lss (.tmp 12) (.tmp 14)), none⟩]) (.kill [12, 13, 14]))
  (.cond (.tmp 15) (.ghost (.kill [15]) .skip)
  (.ghost (.kill [0, 5, 15]) (.exit 0))))
  (.seq (.block 1 (.seq (.post (.reg [⟨(some 18), .op (.mv (.tmp 0)), none⟩,
    ⟨(some 19), .op (.mv (.tmp 5)), none⟩,
    ⟨(some 20), .op (.iaddrS (.tmp 18) (.tmp 19) 4), none⟩,
    ⟨(some 21), .op (.load 4 true (.tmp 20)), none⟩,
    ⟨(some 22), .op (.mv (.tmp 1)), none⟩,
    ⟨(some 23), .call (.func i_laws_szLink) [(.tmp 21), (.tmp 22)], none⟩,
    ⟨(some 1), .op (.mv (.tmp 23)), none⟩]) (.kill [18, 19, 20, 21, 22, 23]))
  (.seq (.post (.reg [⟨(some 24), .op (.mv (.tmp 1)), none⟩,
    ⟨(some 25), .op (.bin .lss (.tmp 24) (.const (Value.int .i64 0))), none⟩]) (.kill [24]))
  (.cond (.tmp 25) (.ghost (.kill [0, 1, 5, 25]) (.seq (.reg [⟨(some 4), .op (.mv (.const (Value.int .i64 (-1)))), none⟩])
  .ret))
  (.ghost (.kill [25]) .skip)))))
  (.post (.reg [⟨(some 16), .op (.mv (.tmp 5)), none⟩,
    ⟨(some 17), .op (.bin .add (.tmp 16) (.const (Value.int .i64 1))), none⟩,
    ⟨(some 5), .op (.mv (.tmp 17)), none⟩]) (.kill [16, 17]))))
def lo_laws_szLinkS_0 : AC := (.loop lb_laws_szLinkS_0)
def ac_laws_szLinkS : AC := (.seq (.post (.reg [⟨(some 4), .op (.mv (.const (Value.int .i64 0))), none⟩]) (.kill [4]))
  (.seq (.post (.reg [⟨(some 6), .op (.mv (.tmp 1)), none⟩,
    ⟨(some 7), .op (.mv (.tmp 0)), none⟩,
    ⟨(some 8), .op (.len false (.tmp 7)), none⟩,
    ⟨(some 9), .op (.bin .sub (.tmp 6) (.tmp 8)), none⟩,
    ⟨(some 1), .op (.mv (.tmp 9)), none⟩]) (.kill [6, 7, 8, 9]))
  (.seq (.seq (.post (.reg [⟨(some 10), .op (.mv (.tmp 1)), none⟩,
    ⟨(some 11), .op (.bin .lss (.tmp 10) (.const (Value.int .i64 0))), none⟩]) (.kill [10]))
  (.cond (.tmp 11) (.ghost (.kill [0, 1, 11]) (.seq (.reg [⟨(some 4), .op (.mv (.const (Value.int .i64 (-1)))), none⟩])
  .ret))
  (.ghost (.kill [11]) .skip)))
  (.seq (.seq (.reg [⟨(some 5), .op (.mv (.const (Value.int .i64 0))), none⟩])
  (.block 0 lo_laws_szLinkS_0))
  (.ghost (.kill [0, 5]) (.seq (.post (.reg [⟨(some 26), .op (.mv (.tmp 1)), none⟩,
    ⟨(some 4), .op (.mv (.tmp 26)), none⟩]) (.kill [1, 26]))
  .ret))))))
theorem cf_laws_szLinkS : chkFn Tryd.prog i_laws_szLinkS ac_laws_szLinkS [.tmp 4] 27 = true := by decide +kernel
def fa_laws_szLinkS : FnA := ⟨ac_laws_szLinkS, [.tmp 4], 27, false, true, [], .any, none⟩

/-- The checked code of laws szModule. -/
def ac_laws_szModule : AC := (.seq (.post (.reg [⟨(some 2), .op (.box true (.tmp 0)), none⟩,
    ⟨(some 4), .op (.mv (.const (Value.int .i64 0))), none⟩]) (.kill [0, 4]))
  (.seq (.post (.reg [⟨(some 5), .op (.faddr (.tmp 2) 1), none⟩,
    ⟨(some 6), .op (.load 1 false (.tmp 5)), none⟩,
    ⟨(some 7), .op (.mv (.tmp 1)), none⟩,
    ⟨(some 8), .call (.func i_laws_szLinkS) [(.tmp 6), (.tmp 7)], none⟩,
    ⟨(some 1), .op (.mv (.tmp 8)), none⟩]) (.kill [2, 5, 6, 7, 8]))
  (.seq (.seq (.post (.reg [⟨(some 9), .op (.mv (.tmp 1)), none⟩,
    ⟨(some 10), .op (.bin .lss (.tmp 9) (.const (Value.int .i64 0))), none⟩]) (.kill [9]))
  (.cond (.tmp 10) (.ghost (.kill [1, 10]) (.seq (.reg [⟨(some 4), .op (.mv (.const (Value.int .i64 (-1)))), none⟩])
  .ret))
  (.ghost (.kill [10]) .skip)))
  (.seq (.post (.reg [⟨(some 11), .op (.mv (.tmp 1)), none⟩,
    ⟨(some 4), .op (.mv (.tmp 11)), none⟩]) (.kill [1, 11]))
  .ret))))
theorem cf_laws_szModule : chkFn Tryd.prog i_laws_szModule ac_laws_szModule [.tmp 4] 12 = true := by decide +kernel
def fa_laws_szModule : FnA := ⟨ac_laws_szModule, [.tmp 4], 12, false, true, [], .any, none⟩

/-- The checked code of laws szModuleS. -/
def lb_laws_szModuleS_0 : AC := (.seq (.seq (.post (.reg [⟨(some 12), .op (.mv (.tmp 5)), none⟩,
    ⟨(some 13), .op (.mv (.tmp 0)), none⟩,
    ⟨(some 14), .op (.len false (.tmp 13)), none⟩,
    ⟨(some 15), .op (.bin .lss (.tmp 12) (.tmp 14)), none⟩]) (.kill [12, 13, 14]))
  (.cond (.tmp 15) (.ghost (.kill [15]) .skip)
  (.ghost (.kill [0, 5, 15]) (.exit 0))))
  (.seq (.block 1 (.seq (.post (.reg [⟨(some 18), .op (.mv (.tmp 0)), none⟩,
    ⟨(some 19), .op (.mv (.tmp 5)), none⟩,
    ⟨(some 20), .op (.iaddrS (.tmp 18) (.tmp 19) 2), none⟩,
    ⟨(some 21), .op (.load 2 true (.tmp 20)), none⟩,
    ⟨(some 22), .op (.mv (.tmp 1)), none⟩,
    ⟨(some 23), .call (.func i_laws_szModule) [(.tmp 21), (.tmp 22)], none⟩,
    ⟨(some 1), .op (.mv (.tmp 23)), none⟩]) (.kill [18, 19, 20, 21, 22, 23]))
  (.seq (.post (.reg [⟨(some 24), .op (.mv (.tmp 1)), none⟩,
    ⟨(some 25), .op (.bin .lss (.tmp 24) (.const (Value.int .i64 0))), none⟩]) (.kill [24]))
  (.cond (.tmp 25) (.ghost (.kill [0, 1, 5, 25]) (.seq (.reg [⟨(some 4), .op (.mv (.const (Value.int .i64 (-1)))), none⟩])
  .ret))
  (.ghost (.kill [25]) .skip)))))
  (.post (.reg [⟨(some 16), .op (.mv (.tmp 5)), none⟩,
    ⟨(some 17), .op (.bin .add (.tmp 16) (.const (Value.int .i64 1))), none⟩,
    ⟨(some 5), .op (.mv (.tmp 17)), none⟩]) (.kill [16, 17]))))
def lo_laws_szModuleS_0 : AC := (.loop lb_laws_szModuleS_0)
def ac_laws_szModuleS : AC := (.seq (.post (.reg [⟨(some 4), .op (.mv (.const (Value.int .i64 0))), none⟩]) (.kill [4]))
  (.seq (.post (.reg [⟨(some 6), .op (.mv (.tmp 1)), none⟩,
    ⟨(some 7), .op (.mv (.tmp 0)), none⟩,
    ⟨(some 8), .op (.len false (.tmp 7)), none⟩,
    ⟨(some 9), .op (.bin .sub (.tmp 6) (.tmp 8)), none⟩,
    ⟨(some 1), .op (.mv (.tmp 9)), none⟩]) (.kill [6, 7, 8, 9]))
  (.seq (.seq (.post (.reg [⟨(some 10), .op (.mv (.tmp 1)), none⟩,
    ⟨(some 11), .op (.bin .lss (.tmp 10) (.const (Value.int .i64 0))), none⟩]) (.kill [10]))
  (.cond (.tmp 11) (.ghost (.kill [0, 1, 11]) (.seq (.reg [⟨(some 4), .op (.mv (.const (Value.int .i64 (-1)))), none⟩])
  .ret))
  (.ghost (.kill [11]) .skip)))
  (.seq (.seq (.reg [⟨(some 5), .op (.mv (.const (Value.int .i64 0))), none⟩])
  (.block 0 lo_laws_szModuleS_0))
  (.ghost (.kill [0, 5]) (.seq (.post (.reg [⟨(some 26), .op (.mv (.tmp 1)), none⟩,
    ⟨(some 4), .op (.mv (.tmp 26)), none⟩]) (.kill [1, 26]))
  .ret))))))
theorem cf_laws_szModuleS : chkFn Tryd.prog i_laws_szModuleS ac_laws_szModuleS [.tmp 4] 27 = true := by decide +kernel
def fa_laws_szModuleS : FnA := ⟨ac_laws_szModuleS, [.tmp 4], 27, false, true, [], .any, none⟩

/-- The checked code of laws szProgram. -/
def ac_laws_szProgram : AC := (.seq (.post (.reg [⟨(some 2), .op (.box true (.tmp 0)), none⟩,
    ⟨(some 4), .op (.mv (.const (Value.int .i64 0))), none⟩]) (.kill [0, 4]))
  (.seq (.post (.reg [⟨(some 5), .op (.faddr (.tmp 2) 0), none⟩,
    ⟨(some 6), .op (.load 1 false (.tmp 5)), none⟩,
    ⟨(some 7), .op (.mv (.tmp 1)), none⟩,
    ⟨(some 8), .call (.func i_laws_szModuleS) [(.tmp 6), (.tmp 7)], none⟩,
    ⟨(some 1), .op (.mv (.tmp 8)), none⟩]) (.kill [2, 5, 6, 7, 8]))
  (.seq (.seq (.post (.reg [⟨(some 9), .op (.mv (.tmp 1)), none⟩,
    ⟨(some 10), .op (.bin .lss (.tmp 9) (.const (Value.int .i64 0))), none⟩]) (.kill [9]))
  (.cond (.tmp 10) (.ghost (.kill [1, 10]) (.seq (.reg [⟨(some 4), .op (.mv (.const (Value.int .i64 (-1)))), none⟩])
  .ret))
  (.ghost (.kill [10]) .skip)))
  (.seq (.post (.reg [⟨(some 11), .op (.mv (.tmp 1)), none⟩,
    ⟨(some 4), .op (.mv (.tmp 11)), none⟩]) (.kill [1, 11]))
  .ret))))
theorem cf_laws_szProgram : chkFn Tryd.prog i_laws_szProgram ac_laws_szProgram [.tmp 4] 12 = true := by decide +kernel
def fa_laws_szProgram : FnA := ⟨ac_laws_szProgram, [.tmp 4], 12, false, true, [], .any, none⟩

/-- The checked code of spec l01Call. -/
def ac_spec_l01Call : AC := (.seq (.post (.reg [⟨(some 2), .op (.mv (.const (Value.bool false))), none⟩]) (.kill [2]))
  (.seq (.post (.reg [⟨(some 3), .op (.mv (.tmp 0)), none⟩,
    ⟨(some 4), .op (.bin .eql (.tmp 3) (.const (Value.int .u8 40))), none⟩,
    ⟨(some 5), .op (.mv (.tmp 4)), none⟩,
    ⟨(some 6), .op (.mv (.tmp 0)), some (5, false)⟩,
    ⟨(some 7), .op (.bin .eql (.tmp 6) (.const (Value.int .u8 91))), some (5, false)⟩,
    ⟨(some 8), .op (.pick (.tmp 5) (.const (Value.bool true)) (.tmp 7)), none⟩,
    ⟨(some 2), .op (.mv (.tmp 8)), none⟩]) (.kill [0, 3, 4, 5, 6, 7, 8]))
  .ret))
theorem cf_spec_l01Call : chkFn Tryd.prog i_spec_l01Call ac_spec_l01Call [.tmp 2] 9 = true := by decide +kernel
def fa_spec_l01Call : FnA := ⟨ac_spec_l01Call, [.tmp 2], 9, false, true, [], .any, none⟩

/-- The checked code of spec l01Return. -/
def ac_spec_l01Return : AC := (.seq (.post (.reg [⟨(some 2), .op (.mv (.const (Value.bool false))), none⟩]) (.kill [2]))
  (.seq (.post (.reg [⟨(some 3), .op (.mv (.tmp 0)), none⟩,
    ⟨(some 4), .op (.bin .eql (.tmp 3) (.const (Value.int .u8 41))), none⟩,
    ⟨(some 5), .op (.mv (.tmp 4)), none⟩,
    ⟨(some 6), .op (.mv (.tmp 0)), some (5, false)⟩,
    ⟨(some 7), .op (.bin .eql (.tmp 6) (.const (Value.int .u8 93))), some (5, false)⟩,
    ⟨(some 8), .op (.pick (.tmp 5) (.const (Value.bool true)) (.tmp 7)), none⟩,
    ⟨(some 2), .op (.mv (.tmp 8)), none⟩]) (.kill [0, 3, 4, 5, 6, 7, 8]))
  .ret))
theorem cf_spec_l01Return : chkFn Tryd.prog i_spec_l01Return ac_spec_l01Return [.tmp 2] 9 = true := by decide +kernel
def fa_spec_l01Return : FnA := ⟨ac_spec_l01Return, [.tmp 2], 9, false, true, [], .any, none⟩

/-- The checked code of spec l06Brackets. -/
def ac_spec_l06Brackets : AC := (.seq (.post (.reg [⟨(some 2), .op (.mv (.const (Value.bool false))), none⟩]) (.kill [2]))
  (.seq (.post (.reg [⟨(some 3), .op (.mv (.tmp 0)), none⟩,
    ⟨(some 4), .op (.len true (.tmp 3)), none⟩,
    ⟨(some 5), .op (.bin .eql (.tmp 4) (.const (Value.int .i64 2))), none⟩,
    ⟨(some 6), .op (.mv (.tmp 5)), none⟩,
    ⟨(some 7), .op (.mv (.tmp 0)), some (6, true)⟩,
    ⟨(some 8), .op (.idxStr (.tmp 7) (.const (Value.int .i64 0))), some (6, true)⟩,
    ⟨(some 9), .call (.func i_spec_l01Call) [(.tmp 8)], some (6, true)⟩,
    ⟨(some 10), .op (.pick (.tmp 6) (.tmp 9) (.const (Value.bool false))), none⟩,
    ⟨(some 11), .op (.mv (.tmp 10)), none⟩,
    ⟨(some 12), .op (.mv (.tmp 0)), some (11, true)⟩,
    ⟨(some 13), .op (.idxStr (.tmp 12) (.const (Value.int .i64 1))), some (11, true)⟩,
    ⟨(some 14), .call (.func i_spec_l01Return) [(.tmp 13)], some (11, true)⟩,
    ⟨(some 15), .op (.pick (.tmp 11) (.tmp 14) (.const (Value.bool false))), none⟩,
    ⟨(some 2), .op (.mv (.tmp 15)), none⟩]) (.kill [0, 3, 4, 5, 6, 7, 8, 9, 10, 11, 12, 13, 14, 15]))
  .ret))
theorem cf_spec_l06Brackets : chkFn Tryd.prog i_spec_l06Brackets ac_spec_l06Brackets [.tmp 2] 16 = true := by decide +kernel
def fa_spec_l06Brackets : FnA := ⟨ac_spec_l06Brackets, [.tmp 2], 16, false, true, [], .any, none⟩

/-- The checked code of spec l07Inner. -/
def ac_spec_l07Inner : AC := (.seq (.post (.reg [⟨(some 2), .op (.mv (.const (Value.bool false))), none⟩]) (.kill [2]))
  (.seq (.post (.reg [⟨(some 3), .op (.mv (.tmp 0)), none⟩,
    ⟨(some 4), .op (.nilc (.tmp 3)), none⟩,
    ⟨(some 5), .op (.faddr (.tmp 4) 2), none⟩,
    ⟨(some 6), .op (.load 1 false (.tmp 5)), none⟩,
    ⟨(some 7), .op (.len true (.tmp 6)), none⟩,
    ⟨(some 8), .op (.bin .eql (.tmp 7) (.const (Value.int .i64 1))), none⟩,
    ⟨(some 2), .op (.mv (.tmp 8)), none⟩]) (.kill [0, 3, 4, 5, 6, 7, 8]))
  .ret))
theorem cf_spec_l07Inner : chkFn Tryd.prog i_spec_l07Inner ac_spec_l07Inner [.tmp 2] 9 = true := by decide +kernel
def fa_spec_l07Inner : FnA := ⟨ac_spec_l07Inner, [.tmp 2], 9, false, true, [], .any, none⟩

/-- The checked code of spec l07Ok. -/
def lb_spec_l07Ok_0 : AC := (.seq (.seq (.post (.reg [⟨(some 41), .op (.mv (.tmp 6)), none⟩,
    ⟨(some 42), .op (.mv (.tmp 5)), none⟩,
    ⟨(some 43), .op (.nilc (.tmp 42)), none⟩,
    ⟨(some 44), .op (.faddr (.tmp 43) 1), none⟩,
    ⟨(some 45), .op (.load 1 false (.tmp 44)), none⟩,
    ⟨(some 46), .op (.len false (.tmp 45)), none⟩,
    ⟨(some 47), .op (.bin .lss (.tmp 41) (.tmp 46)), none⟩]) (.kill [41, 42, 43, 44, 45, 46]))
  (.cond (.tmp 47) (.ghost (.kill [47]) .skip)
  (.ghost (.kill [5, 6, 47]) (.exit 2))))
  (.seq (.block 3 (.seq (.post (.reg [⟨(some 50), .op (.mv (.tmp 5)), none⟩,
    ⟨(some 51), .op (.nilc (.tmp 50)), none⟩,
    ⟨(some 52), .op (.faddr (.tmp 51) 1), none⟩,
    ⟨(some 53), .op (.load 1 false (.tmp 52)), none⟩,
    ⟨(some 54), .op (.mv (.tmp 6)), none⟩,
    ⟨(some 55), .op (.iaddrS (.tmp 53) (.tmp 54) 4), none⟩,
    ⟨(some 7), .op (.mv (.tmp 55)), none⟩]) (.kill [50, 51, 52, 53, 54, 55]))
  (.seq (.seq (.post (.draw [⟨0, ⟨(some 56), .op (.mv (.tmp 7)), none⟩, []⟩,
    ⟨1, ⟨(some 57), .op (.nilc (.tmp 56)), none⟩, []⟩,
    ⟨2, ⟨(some 58), .op (.faddr (.tmp 57) 0), none⟩, []⟩,
    ⟨3, ⟨(some 59), .op (.load 1 false (.tmp 58)), none⟩, []⟩,
    ⟨4, ⟨(some 60), .op (.mv (.tmp 5)), none⟩, []⟩,
    ⟨5, ⟨(some 61), .op (.nilc (.tmp 60)), none⟩, []⟩,
    ⟨6, ⟨(some 62), .op (.faddr (.tmp 61) 0), none⟩, []⟩,
    ⟨7, ⟨(some 63), .op (.load 1 false (.tmp 62)), none⟩, []⟩,
    ⟨8, ⟨(some 64), .op (.bin .sub (.tmp 63) (.const (Value.int .i64 1))), none⟩, []⟩,
    ⟨9, ⟨(some 65), .call (.func i_spec_l00In) [(.tmp 59), (.const (Value.int .i64 0)), (.tmp 64)], none⟩, []⟩,
    ⟨10, ⟨(some 66), .op (.un .not (.tmp 65)), none⟩, []⟩,
    ⟨11, ⟨(some 67), .op (.mv (.tmp 66)), none⟩, []⟩,
    ⟨12, ⟨(some 68), .op (.mv (.tmp 7)), some (67, false)⟩, []⟩,
    ⟨13, ⟨(some 69), .op (.nilc (.tmp 68)), some (67, false)⟩, []⟩,
    ⟨14, ⟨(some 70), .op (.faddr (.tmp 69) 1), some (67, false)⟩, []⟩,
    ⟨15, ⟨(some 71), .op (.load 1 false (.tmp 70)), some (67, false)⟩, []⟩,
    ⟨16, ⟨(some 72), .op (.mv (.tmp 5)), some (67, false)⟩, []⟩,
    ⟨17, ⟨(some 73), .op (.nilc (.tmp 72)), some (67, false)⟩, []⟩,
    ⟨18, ⟨(some 74), .op (.faddr (.tmp 73) 0), some (67, false)⟩, []⟩,
    ⟨19, ⟨(some 75), .op (.load 1 false (.tmp 74)), some (67, false)⟩, []⟩,
    ⟨20, ⟨(some 76), .op (.bin .sub (.tmp 75) (.const (Value.int .i64 1))), some (67, false)⟩, []⟩,
    ⟨21, ⟨(some 77), .call (.func i_spec_l00In) [(.tmp 71), (.const (Value.int .i64 0)), (.tmp 76)], some (67, false)⟩, []⟩,
    ⟨22, ⟨(some 78), .op (.un .not (.tmp 77)), some (67, false)⟩, []⟩,
    ⟨23, ⟨(some 79), .op (.pick (.tmp 67) (.const (Value.bool true)) (.tmp 78)), none⟩, []⟩]
    [0, 1, 3, 7, 0, 16, 48, 112, 240, 511, 1023, 2047, 4095, 8191, 16383, 32767, 4095, 69631, 200703, 462847, 987135, 2097151, 4194303, 8388607]) (.kill [56, 57, 58, 59, 60, 61, 62, 63, 64, 65, 66, 67, 68, 69, 70, 71, 72, 73, 74, 75, 76, 77, 78]))
  (.cond (.tmp 79) (.ghost (.kill [0, 3, 4, 5, 6, 7, 79]) (.seq (.reg [⟨(some 2), .op (.mv (.const (Value.bool false))), none⟩])
  .ret))
  (.ghost (.kill [79]) .skip)))
  (.seq (.post (.reg [⟨(some 80), .op (.mv (.tmp 7)), none⟩,
    ⟨(some 81), .op (.nilc (.tmp 80)), none⟩,
    ⟨(some 82), .op (.faddr (.tmp 81) 2), none⟩,
    ⟨(some 83), .op (.load 1 false (.tmp 82)), none⟩,
    ⟨(some 84), .op (.bin .neq (.tmp 83) (.const (Value.string ⟨#[97]⟩))), none⟩,
    ⟨(some 85), .op (.mv (.tmp 84)), none⟩,
    ⟨(some 86), .op (.mv (.tmp 7)), some (85, true)⟩,
    ⟨(some 87), .op (.nilc (.tmp 86)), some (85, true)⟩,
    ⟨(some 88), .op (.faddr (.tmp 87) 2), some (85, true)⟩,
    ⟨(some 89), .op (.load 1 false (.tmp 88)), some (85, true)⟩,
    ⟨(some 90), .op (.bin .neq (.tmp 89) (.const (Value.string ⟨#[98]⟩))), some (85, true)⟩,
    ⟨(some 91), .op (.pick (.tmp 85) (.tmp 90) (.const (Value.bool false))), none⟩,
    ⟨(some 92), .op (.mv (.tmp 91)), none⟩,
    ⟨(some 93), .op (.mv (.tmp 7)), some (92, true)⟩,
    ⟨(some 94), .op (.nilc (.tmp 93)), some (92, true)⟩,
    ⟨(some 95), .op (.faddr (.tmp 94) 2), some (92, true)⟩,
    ⟨(some 96), .op (.load 1 false (.tmp 95)), some (92, true)⟩,
    ⟨(some 97), .call (.func i_spec_l06Brackets) [(.tmp 96)], some (92, true)⟩,
    ⟨(some 98), .op (.un .not (.tmp 97)), some (92, true)⟩,
    ⟨(some 99), .op (.pick (.tmp 92) (.tmp 98) (.const (Value.bool false))), none⟩,
    ⟨(some 100), .op (.mv (.tmp 99)), none⟩,
    ⟨(some 101), .op (.mv (.tmp 7)), some (100, false)⟩,
    ⟨(some 102), .op (.nilc (.tmp 101)), some (100, false)⟩,
    ⟨(some 103), .op (.faddr (.tmp 102) 3), some (100, false)⟩,
    ⟨(some 104), .op (.load 1 false (.tmp 103)), some (100, false)⟩,
    ⟨(some 105), .op (.mv (.tmp 3)), some (100, false)⟩,
    ⟨(some 106), .op (.bin .sub (.tmp 105) (.const (Value.int .i64 1))), some (100, false)⟩,
    ⟨(some 107), .call (.func i_spec_l00In) [(.tmp 104), (.const (Value.int .i64 0)), (.tmp 106)], some (100, false)⟩,
    ⟨(some 108), .op (.un .not (.tmp 107)), some (100, false)⟩,
    ⟨(some 109), .op (.pick (.tmp 100) (.const (Value.bool true)) (.tmp 108)), none⟩,
    ⟨(some 110), .op (.mv (.tmp 109)), none⟩,
    ⟨(some 111), .op (.mv (.tmp 7)), some (110, false)⟩,
    ⟨(some 112), .call (.func i_spec_l07Inner) [(.tmp 111)], some (110, false)⟩,
    ⟨(some 113), .op (.mv (.tmp 112)), some (110, false)⟩,
    ⟨(some 114), .op (.mv (.tmp 7)), some (113, true)⟩,
    ⟨(some 115), .op (.nilc (.tmp 114)), some (113, true)⟩,
    ⟨(some 116), .op (.faddr (.tmp 115) 3), some (113, true)⟩,
    ⟨(some 117), .op (.load 1 false (.tmp 116)), some (113, true)⟩,
    ⟨(some 118), .op (.bin .neq (.tmp 117) (.const (Value.int .i64 0))), some (113, true)⟩,
    ⟨(some 119), .op (.pick (.tmp 113) (.tmp 118) (.const (Value.bool false))), some (110, false)⟩,
    ⟨(some 120), .op (.pick (.tmp 110) (.const (Value.bool true)) (.tmp 119)), none⟩]) (.kill [7, 80, 81, 82, 83, 84, 85, 86, 87, 88, 89, 90, 91, 92, 93, 94, 95, 96, 97, 98, 99, 100, 101, 102, 103, 104, 105, 106, 107, 108, 109, 110, 111, 112, 113, 114, 115, 116, 117, 118, 119]))
  (.cond (.tmp 120) (.ghost (.kill [0, 3, 4, 5, 6, 120]) (.seq (.reg [⟨(some 2), .op (.mv (.const (Value.bool false))), none⟩])
  .ret))
  (.ghost (.kill [120]) .skip))))))
  (.post (.reg [⟨(some 48), .op (.mv (.tmp 6)), none⟩,
    ⟨(some 49), .op (.bin .add (.tmp 48) (.const (Value.int .i64 1))), none⟩,
    ⟨(some 6), .op (.mv (.tmp 49)), none⟩]) (.kill [48, 49]))))
def lo_spec_l07Ok_0 : AC := (.loop lb_spec_l07Ok_0)
def lb_spec_l07Ok_1 : AC := (.seq (.seq (.post (.reg [⟨(some 16), .op (.mv (.tmp 4)), none⟩,
    ⟨(some 17), .op (.mv (.tmp 3)), none⟩,
    ⟨(some 18), .op (.bin .lss (.tmp 16) (.tmp 17)), none⟩]) (.kill [16, 17]))
  (.cond (.tmp 18) (.ghost (.kill [18]) .skip)
  (.ghost (.kill [0, 3, 4, 18]) (.exit 0))))
  (.seq (.block 1 (.seq (.post (.reg [⟨(some 21), .op (.mv (.tmp 0)), none⟩,
    ⟨(some 22), .op (.nilc (.tmp 21)), none⟩,
    ⟨(some 23), .op (.faddr (.tmp 22) 0), none⟩,
    ⟨(some 24), .op (.load 1 false (.tmp 23)), none⟩,
    ⟨(some 25), .op (.mv (.tmp 4)), none⟩,
    ⟨(some 26), .op (.iaddrS (.tmp 24) (.tmp 25) 2), none⟩,
    ⟨(some 5), .op (.mv (.tmp 26)), none⟩]) (.kill [21, 22, 23, 24, 25, 26]))
  (.seq (.seq (.post (.reg [⟨(some 27), .op (.mv (.tmp 5)), none⟩,
    ⟨(some 28), .op (.nilc (.tmp 27)), none⟩,
    ⟨(some 29), .op (.faddr (.tmp 28) 0), none⟩,
    ⟨(some 30), .op (.load 1 false (.tmp 29)), none⟩,
    ⟨(some 31), .call (.func i_spec_l00In) [(.tmp 30), (.const (Value.int .i64 1)), (.const (Value.int .i64 8))], none⟩,
    ⟨(some 32), .op (.un .not (.tmp 31)), none⟩,
    ⟨(some 33), .op (.mv (.tmp 32)), none⟩,
    ⟨(some 34), .op (.mv (.tmp 5)), some (33, false)⟩,
    ⟨(some 35), .op (.nilc (.tmp 34)), some (33, false)⟩,
    ⟨(some 36), .op (.faddr (.tmp 35) 1), some (33, false)⟩,
    ⟨(some 37), .op (.load 1 false (.tmp 36)), some (33, false)⟩,
    ⟨(some 38), .op (.len false (.tmp 37)), some (33, false)⟩,
    ⟨(some 39), .op (.bin .gtr (.tmp 38) (.const (Value.int .i64 12))), some (33, false)⟩,
    ⟨(some 40), .op (.pick (.tmp 33) (.const (Value.bool true)) (.tmp 39)), none⟩]) (.kill [27, 28, 29, 30, 31, 32, 33, 34, 35, 36, 37, 38, 39]))
  (.cond (.tmp 40) (.ghost (.kill [0, 3, 4, 5, 40]) (.seq (.reg [⟨(some 2), .op (.mv (.const (Value.bool false))), none⟩])
  .ret))
  (.ghost (.kill [40]) .skip)))
  (.seq (.reg [⟨(some 6), .op (.mv (.const (Value.int .i64 0))), none⟩])
  (.block 2 lo_spec_l07Ok_0)))))
  (.ghost (.kill [5, 6]) (.post (.reg [⟨(some 19), .op (.mv (.tmp 4)), none⟩,
    ⟨(some 20), .op (.bin .add (.tmp 19) (.const (Value.int .i64 1))), none⟩,
    ⟨(some 4), .op (.mv (.tmp 20)), none⟩]) (.kill [19, 20])))))
def lo_spec_l07Ok_1 : AC := (.loop lb_spec_l07Ok_1)
def ac_spec_l07Ok : AC := (.seq (.post (.reg [⟨(some 2), .op (.mv (.const (Value.bool false))), none⟩]) (.kill [2]))
  (.seq (.post (.reg [⟨(some 8), .op (.mv (.tmp 0)), none⟩,
    ⟨(some 9), .op (.nilc (.tmp 8)), none⟩,
    ⟨(some 10), .op (.faddr (.tmp 9) 0), none⟩,
    ⟨(some 11), .op (.load 1 false (.tmp 10)), none⟩,
    ⟨(some 12), .op (.len false (.tmp 11)), none⟩,
    ⟨(some 3), .op (.mv (.tmp 12)), none⟩]) (.kill [8, 9, 10, 11, 12]))
  (.seq (.seq (.post (.reg [⟨(some 13), .op (.mv (.tmp 3)), none⟩,
    ⟨(some 14), .call (.func i_spec_l00In) [(.tmp 13), (.const (Value.int .i64 1)), (.const (Value.int .i64 4))], none⟩,
    ⟨(some 15), .op (.un .not (.tmp 14)), none⟩]) (.kill [13, 14]))
  (.cond (.tmp 15) (.ghost (.kill [0, 3, 15]) (.seq (.reg [⟨(some 2), .op (.mv (.const (Value.bool false))), none⟩])
  .ret))
  (.ghost (.kill [15]) .skip)))
  (.seq (.seq (.reg [⟨(some 4), .op (.mv (.const (Value.int .i64 0))), none⟩])
  (.block 0 lo_spec_l07Ok_1))
  (.ghost (.kill [0, 3, 4]) (.seq (.reg [⟨(some 2), .op (.mv (.const (Value.bool true))), none⟩])
  .ret))))))
theorem cf_spec_l07Ok : chkFn Tryd.prog i_spec_l07Ok ac_spec_l07Ok [.tmp 2] 121 = true := by decide +kernel
def fa_spec_l07Ok : FnA := ⟨ac_spec_l07Ok, [.tmp 2], 121, false, true, [], .any, none⟩

/-- The checked code of spec l07Text. -/
def lb_spec_l07Text_0 : AC := (.post (.seq (.seq (.post (.reg [⟨(some 29), .op (.mv (.tmp 5)), none⟩,
    ⟨(some 30), .op (.mv (.tmp 0)), none⟩,
    ⟨(some 31), .op (.nilc (.tmp 30)), none⟩,
    ⟨(some 32), .op (.faddr (.tmp 31) 0), none⟩,
    ⟨(some 33), .op (.load 1 false (.tmp 32)), none⟩,
    ⟨(some 34), .op (.mv (.tmp 4)), none⟩,
    ⟨(some 35), .op (.iaddrS (.tmp 33) (.tmp 34) 2), none⟩,
    ⟨(some 36), .op (.faddr (.tmp 35) 1), none⟩,
    ⟨(some 37), .op (.load 1 false (.tmp 36)), none⟩,
    ⟨(some 38), .op (.len false (.tmp 37)), none⟩,
    ⟨(some 39), .op (.bin .lss (.tmp 29) (.tmp 38)), none⟩]) (.kill [29, 30, 31, 32, 33, 34, 35, 36, 37, 38]))
  (.cond (.tmp 39) (.ghost (.kill [39]) .skip)
  (.ghost (.kill [5, 39]) (.exit 2))))
  (.seq (.block 3 (.seq (.post (.reg [⟨(some 42), .op (.mv (.tmp 0)), none⟩,
    ⟨(some 43), .op (.nilc (.tmp 42)), none⟩,
    ⟨(some 44), .op (.faddr (.tmp 43) 0), none⟩,
    ⟨(some 45), .op (.load 1 false (.tmp 44)), none⟩,
    ⟨(some 46), .op (.mv (.tmp 4)), none⟩,
    ⟨(some 47), .op (.iaddrS (.tmp 45) (.tmp 46) 2), none⟩,
    ⟨(some 48), .op (.faddr (.tmp 47) 1), none⟩,
    ⟨(some 49), .op (.load 1 false (.tmp 48)), none⟩,
    ⟨(some 50), .op (.mv (.tmp 5)), none⟩,
    ⟨(some 51), .op (.iaddrS (.tmp 49) (.tmp 50) 4), none⟩,
    ⟨(some 52), .op (.load 4 true (.tmp 51)), none⟩,
    ⟨(some 6), .op (.alloc (Value.agg #[Value.int .i64 0, Value.int .i64 0, Value.string ⟨#[]⟩, Value.int .i64 0])), none⟩,
    ⟨none, .op (.store 4 (.tmp 6) (.tmp 52)), none⟩]) (.kill [42, 43, 44, 45, 46, 47, 48, 49, 50, 51, 52]))
  (.seq (.post (.draw [⟨0, ⟨(some 53), .op (.mv (.tmp 3)), none⟩, []⟩,
    ⟨1, ⟨(some 54), .op (.faddr (.tmp 6) 0), none⟩, []⟩,
    ⟨2, ⟨(some 55), .op (.load 1 false (.tmp 54)), none⟩, []⟩,
    ⟨6, ⟨(some 59), .op (.faddr (.tmp 6) 1), none⟩, []⟩,
    ⟨7, ⟨(some 60), .op (.load 1 false (.tmp 59)), none⟩, []⟩,
    ⟨11, ⟨(some 64), .op (.faddr (.tmp 6) 2), none⟩, []⟩,
    ⟨12, ⟨(some 65), .op (.load 1 false (.tmp 64)), none⟩, []⟩,
    ⟨3, ⟨(some 56), .call (.func i_spec_Decimal) [(.tmp 55)], none⟩, [7, 12]⟩,
    ⟨4, ⟨(some 57), .op (.bin .add (.const (Value.string ⟨#[108, 105, 110, 107, 32]⟩)) (.tmp 56)), none⟩, []⟩,
    ⟨5, ⟨(some 58), .op (.bin .add (.tmp 57) (.const (Value.string ⟨#[32]⟩))), none⟩, []⟩,
    ⟨8, ⟨(some 61), .call (.func i_spec_Decimal) [(.tmp 60)], none⟩, [12]⟩,
    ⟨9, ⟨(some 62), .op (.bin .add (.tmp 58) (.tmp 61)), none⟩, []⟩,
    ⟨10, ⟨(some 63), .op (.bin .add (.tmp 62) (.const (Value.string ⟨#[32]⟩))), none⟩, []⟩,
    ⟨13, ⟨(some 66), .op (.bin .add (.tmp 63) (.tmp 65)), none⟩, []⟩,
    ⟨14, ⟨(some 67), .op (.bin .add (.tmp 53) (.tmp 66)), none⟩, []⟩,
    ⟨15, ⟨(some 3), .op (.mv (.tmp 67)), none⟩, []⟩]
    [0, 0, 2, 6, 14, 30, 0, 64, 206, 510, 1022, 0, 2048, 8190, 16383, 32767]) (.kill [53, 54, 55, 56, 57, 58, 59, 60, 61, 62, 63, 64, 65, 66, 67]))
  (.seq (.seq (.post (.reg [⟨(some 68), .call (.func i_spec_l07Inner) [(.tmp 6)], none⟩,
    ⟨(some 69), .op (.un .not (.tmp 68)), none⟩]) (.kill [68]))
  (.cond (.tmp 69) (.ghost (.kill [69]) (.post (.reg [⟨(some 70), .op (.mv (.tmp 3)), none⟩,
    ⟨(some 71), .op (.faddr (.tmp 6) 3), none⟩,
    ⟨(some 72), .op (.load 1 false (.tmp 71)), none⟩,
    ⟨(some 73), .call (.func i_spec_Decimal) [(.tmp 72)], none⟩,
    ⟨(some 74), .op (.bin .add (.const (Value.string ⟨#[32]⟩)) (.tmp 73)), none⟩,
    ⟨(some 75), .op (.bin .add (.tmp 70) (.tmp 74)), none⟩,
    ⟨(some 3), .op (.mv (.tmp 75)), none⟩]) (.kill [6, 70, 71, 72, 73, 74, 75])))
  (.ghost (.kill [6, 69]) .skip)))
  (.post (.reg [⟨(some 76), .op (.mv (.tmp 3)), none⟩,
    ⟨(some 77), .op (.bin .add (.tmp 76) (.const (Value.string ⟨#[10]⟩))), none⟩,
    ⟨(some 3), .op (.mv (.tmp 77)), none⟩]) (.kill [76, 77]))))))
  (.post (.reg [⟨(some 40), .op (.mv (.tmp 5)), none⟩,
    ⟨(some 41), .op (.bin .add (.tmp 40) (.const (Value.int .i64 1))), none⟩,
    ⟨(some 5), .op (.mv (.tmp 41)), none⟩]) (.kill [40, 41])))) .nv)
def lo_spec_l07Text_0 : AC := (.loop lb_spec_l07Text_0)
def lb_spec_l07Text_1 : AC := (.post (.seq (.seq (.post (.reg [⟨(some 7), .op (.mv (.tmp 4)), none⟩,
    ⟨(some 8), .op (.mv (.tmp 0)), none⟩,
    ⟨(some 9), .op (.nilc (.tmp 8)), none⟩,
    ⟨(some 10), .op (.faddr (.tmp 9) 0), none⟩,
    ⟨(some 11), .op (.load 1 false (.tmp 10)), none⟩,
    ⟨(some 12), .op (.len false (.tmp 11)), none⟩,
    ⟨(some 13), .op (.bin .lss (.tmp 7) (.tmp 12)), none⟩]) (.kill [7, 8, 9, 10, 11, 12]))
  (.cond (.tmp 13) (.ghost (.kill [13]) .skip)
  (.ghost (.kill [0, 4, 13]) (.exit 0))))
  (.seq (.block 1 (.seq (.post (.reg [⟨(some 16), .op (.mv (.tmp 3)), none⟩,
    ⟨(some 17), .op (.mv (.tmp 0)), none⟩,
    ⟨(some 18), .op (.nilc (.tmp 17)), none⟩,
    ⟨(some 19), .op (.faddr (.tmp 18) 0), none⟩,
    ⟨(some 20), .op (.load 1 false (.tmp 19)), none⟩,
    ⟨(some 21), .op (.mv (.tmp 4)), none⟩,
    ⟨(some 22), .op (.iaddrS (.tmp 20) (.tmp 21) 2), none⟩,
    ⟨(some 23), .op (.faddr (.tmp 22) 0), none⟩,
    ⟨(some 24), .op (.load 1 false (.tmp 23)), none⟩,
    ⟨(some 25), .call (.func i_spec_Decimal) [(.tmp 24)], none⟩,
    ⟨(some 26), .op (.bin .add (.const (Value.string ⟨#[109, 111, 100, 117, 108, 101, 32]⟩)) (.tmp 25)), none⟩,
    ⟨(some 27), .op (.bin .add (.tmp 26) (.const (Value.string ⟨#[10]⟩))), none⟩,
    ⟨(some 28), .op (.bin .add (.tmp 16) (.tmp 27)), none⟩,
    ⟨(some 3), .op (.mv (.tmp 28)), none⟩]) (.kill [16, 17, 18, 19, 20, 21, 22, 23, 24, 25, 26, 27, 28]))
  (.seq (.reg [⟨(some 5), .op (.mv (.const (Value.int .i64 0))), none⟩])
  (.post (.block 2 (.ghost .nv lo_spec_l07Text_0)) .nv))))
  (.ghost (.kill [5]) (.post (.reg [⟨(some 14), .op (.mv (.tmp 4)), none⟩,
    ⟨(some 15), .op (.bin .add (.tmp 14) (.const (Value.int .i64 1))), none⟩,
    ⟨(some 4), .op (.mv (.tmp 15)), none⟩]) (.kill [14, 15]))))) .nv)
def lo_spec_l07Text_1 : AC := (.loop lb_spec_l07Text_1)
def ac_spec_l07Text : AC := (.seq (.post (.reg [⟨(some 2), .op (.mv (.const (Value.string ⟨#[]⟩))), none⟩]) (.kill [2]))
  (.seq (.reg [⟨(some 3), .op (.mv (.const (Value.string ⟨#[]⟩))), none⟩])
  (.seq (.seq (.reg [⟨(some 4), .op (.mv (.const (Value.int .i64 0))), none⟩])
  (.post (.block 0 (.ghost .nv lo_spec_l07Text_1)) .nv))
  (.ghost (.kill [0, 4]) (.seq (.post (.reg [⟨(some 78), .op (.mv (.tmp 3)), none⟩,
    ⟨(some 2), .op (.mv (.tmp 78)), none⟩]) (.kill [3, 78]))
  .ret)))))
theorem cf_spec_l07Text : chkFn Tryd.prog i_spec_l07Text ac_spec_l07Text [.tmp 2] 79 = true := by decide +kernel
def fa_spec_l07Text : FnA := ⟨ac_spec_l07Text, [.tmp 2], 79, false, true, [], .any, none⟩

end Go.Proofs.YtipmgemnjcjobaaDoor
