/- The code of the functions, checked against the loaded program; printed by a program (gen2.py). -/
import Derived.Test.YtoliadfdklfmfaaProg
import Derived.Test.YtoliadfdklfmfaaAw25
set_option linter.unusedVariables false
set_option maxRecDepth 100000
namespace Go.Proofs.Ytoliadfdklfmfaa
open Aw

/-! The numbers of the functions. -/
def i_laws_FnExactTrimChecker : FuncId := 5
def i_laws_szChecker : FuncId := 6
def i_laws_toChecker : FuncId := 8
def i_laws_eqChecker : FuncId := 11
def i_laws_markChecker : FuncId := 12
def i_laws_eqInt64S : FuncId := 17
def i_laws_markInt64S : FuncId := 18
def i_laws_heldInt64S : FuncId := 19
def i_spec_TrimChecker : FuncId := 20
def i_impl_TrimChecker : FuncId := 21
def i_laws_heldChecker : FuncId := 22
def i_laws_szBoolS : FuncId := 23
def i_laws_szPushSS : FuncId := 24
def i_laws_szInt64SSS : FuncId := 25
def i_laws_szInt64SS : FuncId := 26
def i_spec_l02Ok : FuncId := 27
def i_laws_toBoolS : FuncId := 30
def i_laws_toPushSS : FuncId := 31
def i_laws_toInt64SSS : FuncId := 32
def i_laws_toInt64SS : FuncId := 33
def i_impl_ValidChecker : FuncId := 34
def i_laws_eqBoolS : FuncId := 37
def i_laws_eqInt64SSS : FuncId := 40
def i_laws_eqPushSS : FuncId := 41
def i_laws_eqInt64SS : FuncId := 42
def i_laws_markBoolS : FuncId := 43
def i_laws_markPushSS : FuncId := 44
def i_laws_markInt64SSS : FuncId := 45
def i_laws_markInt64SS : FuncId := 46
def i_laws_heldBoolS : FuncId := 49
def i_laws_heldInt64SSS : FuncId := 52
def i_spec_l02Used : FuncId := 53
def i_impl_Checker_used : FuncId := 54
def i_impl_TrimChecker_1 : FuncId := 55
def i_slices_Index_L_int64 : FuncId := 56
def i_impl_built : FuncId := 57
def i_impl_size_int64 : FuncId := 58
def i_impl_TrimChecker_2 : FuncId := 59
def i_impl_TrimChecker_3 : FuncId := 60
def i_impl_TrimChecker_4 : FuncId := 61
def i_impl_TrimChecker_5 : FuncId := 62
def i_laws_heldPushSS : FuncId := 63
def i_laws_heldInt64SS : FuncId := 64
def i_laws_szPushS : FuncId := 65
def i_laws_szInt64S : FuncId := 66
def i_spec_l00In : FuncId := 67
def i_spec_l02List : FuncId := 68
def i_laws_toPushS : FuncId := 70
def i_laws_toInt64S : FuncId := 71
def i_impl_size_bool : FuncId := 72
def i_impl_within : FuncId := 73
def i_impl_Checker_isState : FuncId := 74
def i_impl_size_L_impl_Push : FuncId := 75
def i_impl_size_L_L_int64 : FuncId := 76
def i_impl_size_L_int64 : FuncId := 77
def i_impl_ValidChecker_1 : FuncId := 78
def i_slices_ContainsFunc_L_int64 : FuncId := 79
def i_impl_ValidChecker_1_1 : FuncId := 80
def i_impl_Checker_isMark : FuncId := 81
def i_laws_eqPushS : FuncId := 84
def i_laws_markPushS : FuncId := 85
def i_spec_l00Own : FuncId := 86
def i_spec_l00Has : FuncId := 87
def i_spec_l00Put : FuncId := 88
def i_slices_Concat_L_int64 : FuncId := 89
def i_slices_Contains_L_int64 : FuncId := 90
def i_slices_Sort_L_int64 : FuncId := 91
def i_laws_heldPushS : FuncId := 92
def i_laws_toPush : FuncId := 95
def i_slices_IndexFunc_L_int64 : FuncId := 96
def i_laws_eqPush : FuncId := 103
def i_slices_Grow_L_int64 : FuncId := 104

/-- The checked code of laws szBoolS. -/
def ac_laws_szBoolS : AC := (.seq (.post (.reg [⟨(some 4), .op (.mv (.const (Value.int .i64 0))), none⟩]) (.kill [4]))
  (.seq (.post (.reg [⟨(some 5), .op (.mv (.tmp 1)), none⟩,
    ⟨(some 6), .op (.mv (.tmp 0)), none⟩,
    ⟨(some 7), .op (.len false (.tmp 6)), none⟩,
    ⟨(some 8), .op (.bin .sub (.tmp 5) (.tmp 7)), none⟩,
    ⟨(some 1), .op (.mv (.tmp 8)), none⟩]) (.kill [0, 5, 6, 7, 8]))
  (.seq (.seq (.post (.reg [⟨(some 9), .op (.mv (.tmp 1)), none⟩,
    ⟨(some 10), .op (.bin .lss (.tmp 9) (.const (Value.int .i64 0))), none⟩]) (.kill [9]))
  (.cond (.tmp 10) (.ghost (.kill [1, 10]) (.seq (.reg [⟨(some 4), .op (.mv (.const (Value.int .i64 (-1)))), none⟩])
  .ret))
  (.ghost (.kill [10]) .skip)))
  (.seq (.post (.reg [⟨(some 11), .op (.mv (.tmp 1)), none⟩,
    ⟨(some 4), .op (.mv (.tmp 11)), none⟩]) (.kill [1, 11]))
  .ret))))
theorem cf_laws_szBoolS : chkFn Try.prog i_laws_szBoolS ac_laws_szBoolS [.tmp 4] 12 = true := by decide +kernel
def fa_laws_szBoolS : FnA := ⟨ac_laws_szBoolS, [.tmp 4], 12, false, true, [], .any, none⟩

/-- The checked code of laws szPushS. -/
def ac_laws_szPushS : AC := (.seq (.post (.reg [⟨(some 4), .op (.mv (.const (Value.int .i64 0))), none⟩]) (.kill [4]))
  (.seq (.post (.reg [⟨(some 5), .op (.mv (.tmp 1)), none⟩,
    ⟨(some 6), .op (.mv (.tmp 0)), none⟩,
    ⟨(some 7), .op (.len false (.tmp 6)), none⟩,
    ⟨(some 8), .op (.bin .sub (.tmp 5) (.tmp 7)), none⟩,
    ⟨(some 1), .op (.mv (.tmp 8)), none⟩]) (.kill [0, 5, 6, 7, 8]))
  (.seq (.seq (.post (.reg [⟨(some 9), .op (.mv (.tmp 1)), none⟩,
    ⟨(some 10), .op (.bin .lss (.tmp 9) (.const (Value.int .i64 0))), none⟩]) (.kill [9]))
  (.cond (.tmp 10) (.ghost (.kill [1, 10]) (.seq (.reg [⟨(some 4), .op (.mv (.const (Value.int .i64 (-1)))), none⟩])
  .ret))
  (.ghost (.kill [10]) .skip)))
  (.seq (.post (.reg [⟨(some 11), .op (.mv (.tmp 1)), none⟩,
    ⟨(some 4), .op (.mv (.tmp 11)), none⟩]) (.kill [1, 11]))
  .ret))))
theorem cf_laws_szPushS : chkFn Try.prog i_laws_szPushS ac_laws_szPushS [.tmp 4] 12 = true := by decide +kernel
def fa_laws_szPushS : FnA := ⟨ac_laws_szPushS, [.tmp 4], 12, false, true, [], .any, none⟩

/-- The checked code of laws szPushSS. -/
def lb_laws_szPushSS_0 : AC := (.seq (.seq (.post (.reg [⟨(some 12), .op (.mv (.tmp 5)), none⟩,
    ⟨(some 13), .op (.mv (.tmp 0)), none⟩,
    ⟨(some 14), .op (.len false (.tmp 13)), none⟩,
    ⟨(some 15), .op (.bin .lss (.tmp 12) (.tmp 14)), none⟩]) (.kill [12, 13, 14]))
  (.cond (.tmp 15) (.ghost (.kill [15]) .skip)
  (.ghost (.kill [0, 5, 15]) (.exit 0))))
  (.seq (.block 1 (.seq (.post (.reg [⟨(some 18), .op (.mv (.tmp 0)), none⟩,
    ⟨(some 19), .op (.mv (.tmp 5)), none⟩,
    ⟨(some 20), .op (.iaddrS (.tmp 18) (.tmp 19) 1), none⟩,
    ⟨(some 21), .op (.load 1 false (.tmp 20)), none⟩,
    ⟨(some 22), .op (.mv (.tmp 1)), none⟩,
    ⟨(some 23), .call (.func i_laws_szPushS) [(.tmp 21), (.tmp 22)], none⟩,
    ⟨(some 1), .op (.mv (.tmp 23)), none⟩]) (.kill [18, 19, 20, 21, 22, 23]))
  (.seq (.post (.reg [⟨(some 24), .op (.mv (.tmp 1)), none⟩,
    ⟨(some 25), .op (.bin .lss (.tmp 24) (.const (Value.int .i64 0))), none⟩]) (.kill [24]))
  (.cond (.tmp 25) (.ghost (.kill [0, 1, 5, 25]) (.seq (.reg [⟨(some 4), .op (.mv (.const (Value.int .i64 (-1)))), none⟩])
  .ret))
  (.ghost (.kill [25]) .skip)))))
  (.post (.reg [⟨(some 16), .op (.mv (.tmp 5)), none⟩,
    ⟨(some 17), .op (.bin .add (.tmp 16) (.const (Value.int .i64 1))), none⟩,
    ⟨(some 5), .op (.mv (.tmp 17)), none⟩]) (.kill [16, 17]))))
def lo_laws_szPushSS_0 : AC := (.loop lb_laws_szPushSS_0)
def ac_laws_szPushSS : AC := (.seq (.post (.reg [⟨(some 4), .op (.mv (.const (Value.int .i64 0))), none⟩]) (.kill [4]))
  (.seq (.post (.reg [⟨(some 6), .op (.mv (.tmp 1)), none⟩,
    ⟨(some 7), .op (.mv (.tmp 0)), none⟩,
    ⟨(some 8), .op (.len false (.tmp 7)), none⟩,
    ⟨(some 9), .op (.bin .sub (.tmp 6) (.tmp 8)), none⟩,
    ⟨(some 1), .op (.mv (.tmp 9)), none⟩]) (.kill [6, 7, 8, 9]))
  (.seq (.seq (.post (.reg [⟨(some 10), .op (.mv (.tmp 1)), none⟩,
    ⟨(some 11), .op (.bin .lss (.tmp 10) (.const (Value.int .i64 0))), none⟩]) (.kill [10]))
  (.cond (.tmp 11) (.ghost (.kill [0, 1, 11]) (.seq (.reg [⟨(some 4), .op (.mv (.const (Value.int .i64 (-1)))), none⟩])
  .ret))
  (.ghost (.kill [11]) .skip)))
  (.seq (.seq (.reg [⟨(some 5), .op (.mv (.const (Value.int .i64 0))), none⟩])
  (.block 0 lo_laws_szPushSS_0))
  (.ghost (.kill [0, 5]) (.seq (.post (.reg [⟨(some 26), .op (.mv (.tmp 1)), none⟩,
    ⟨(some 4), .op (.mv (.tmp 26)), none⟩]) (.kill [1, 26]))
  .ret))))))
theorem cf_laws_szPushSS : chkFn Try.prog i_laws_szPushSS ac_laws_szPushSS [.tmp 4] 27 = true := by decide +kernel
def fa_laws_szPushSS : FnA := ⟨ac_laws_szPushSS, [.tmp 4], 27, false, true, [], .any, none⟩

/-- The checked code of laws szInt64S. -/
def ac_laws_szInt64S : AC := (.seq (.post (.reg [⟨(some 4), .op (.mv (.const (Value.int .i64 0))), none⟩]) (.kill [4]))
  (.seq (.post (.reg [⟨(some 5), .op (.mv (.tmp 1)), none⟩,
    ⟨(some 6), .op (.mv (.tmp 0)), none⟩,
    ⟨(some 7), .op (.len false (.tmp 6)), none⟩,
    ⟨(some 8), .op (.bin .sub (.tmp 5) (.tmp 7)), none⟩,
    ⟨(some 1), .op (.mv (.tmp 8)), none⟩]) (.kill [0, 5, 6, 7, 8]))
  (.seq (.seq (.post (.reg [⟨(some 9), .op (.mv (.tmp 1)), none⟩,
    ⟨(some 10), .op (.bin .lss (.tmp 9) (.const (Value.int .i64 0))), none⟩]) (.kill [9]))
  (.cond (.tmp 10) (.ghost (.kill [1, 10]) (.seq (.reg [⟨(some 4), .op (.mv (.const (Value.int .i64 (-1)))), none⟩])
  .ret))
  (.ghost (.kill [10]) .skip)))
  (.seq (.post (.reg [⟨(some 11), .op (.mv (.tmp 1)), none⟩,
    ⟨(some 4), .op (.mv (.tmp 11)), none⟩]) (.kill [1, 11]))
  .ret))))
theorem cf_laws_szInt64S : chkFn Try.prog i_laws_szInt64S ac_laws_szInt64S [.tmp 4] 12 = true := by decide +kernel
def fa_laws_szInt64S : FnA := ⟨ac_laws_szInt64S, [.tmp 4], 12, false, true, [], .any, none⟩

/-- The checked code of laws szInt64SS. -/
def lb_laws_szInt64SS_0 : AC := (.seq (.seq (.post (.reg [⟨(some 12), .op (.mv (.tmp 5)), none⟩,
    ⟨(some 13), .op (.mv (.tmp 0)), none⟩,
    ⟨(some 14), .op (.len false (.tmp 13)), none⟩,
    ⟨(some 15), .op (.bin .lss (.tmp 12) (.tmp 14)), none⟩]) (.kill [12, 13, 14]))
  (.cond (.tmp 15) (.ghost (.kill [15]) .skip)
  (.ghost (.kill [0, 5, 15]) (.exit 0))))
  (.seq (.block 1 (.seq (.post (.reg [⟨(some 18), .op (.mv (.tmp 0)), none⟩,
    ⟨(some 19), .op (.mv (.tmp 5)), none⟩,
    ⟨(some 20), .op (.iaddrS (.tmp 18) (.tmp 19) 1), none⟩,
    ⟨(some 21), .op (.load 1 false (.tmp 20)), none⟩,
    ⟨(some 22), .op (.mv (.tmp 1)), none⟩,
    ⟨(some 23), .call (.func i_laws_szInt64S) [(.tmp 21), (.tmp 22)], none⟩,
    ⟨(some 1), .op (.mv (.tmp 23)), none⟩]) (.kill [18, 19, 20, 21, 22, 23]))
  (.seq (.post (.reg [⟨(some 24), .op (.mv (.tmp 1)), none⟩,
    ⟨(some 25), .op (.bin .lss (.tmp 24) (.const (Value.int .i64 0))), none⟩]) (.kill [24]))
  (.cond (.tmp 25) (.ghost (.kill [0, 1, 5, 25]) (.seq (.reg [⟨(some 4), .op (.mv (.const (Value.int .i64 (-1)))), none⟩])
  .ret))
  (.ghost (.kill [25]) .skip)))))
  (.post (.reg [⟨(some 16), .op (.mv (.tmp 5)), none⟩,
    ⟨(some 17), .op (.bin .add (.tmp 16) (.const (Value.int .i64 1))), none⟩,
    ⟨(some 5), .op (.mv (.tmp 17)), none⟩]) (.kill [16, 17]))))
def lo_laws_szInt64SS_0 : AC := (.loop lb_laws_szInt64SS_0)
def ac_laws_szInt64SS : AC := (.seq (.post (.reg [⟨(some 4), .op (.mv (.const (Value.int .i64 0))), none⟩]) (.kill [4]))
  (.seq (.post (.reg [⟨(some 6), .op (.mv (.tmp 1)), none⟩,
    ⟨(some 7), .op (.mv (.tmp 0)), none⟩,
    ⟨(some 8), .op (.len false (.tmp 7)), none⟩,
    ⟨(some 9), .op (.bin .sub (.tmp 6) (.tmp 8)), none⟩,
    ⟨(some 1), .op (.mv (.tmp 9)), none⟩]) (.kill [6, 7, 8, 9]))
  (.seq (.seq (.post (.reg [⟨(some 10), .op (.mv (.tmp 1)), none⟩,
    ⟨(some 11), .op (.bin .lss (.tmp 10) (.const (Value.int .i64 0))), none⟩]) (.kill [10]))
  (.cond (.tmp 11) (.ghost (.kill [0, 1, 11]) (.seq (.reg [⟨(some 4), .op (.mv (.const (Value.int .i64 (-1)))), none⟩])
  .ret))
  (.ghost (.kill [11]) .skip)))
  (.seq (.seq (.reg [⟨(some 5), .op (.mv (.const (Value.int .i64 0))), none⟩])
  (.block 0 lo_laws_szInt64SS_0))
  (.ghost (.kill [0, 5]) (.seq (.post (.reg [⟨(some 26), .op (.mv (.tmp 1)), none⟩,
    ⟨(some 4), .op (.mv (.tmp 26)), none⟩]) (.kill [1, 26]))
  .ret))))))
theorem cf_laws_szInt64SS : chkFn Try.prog i_laws_szInt64SS ac_laws_szInt64SS [.tmp 4] 27 = true := by decide +kernel
def fa_laws_szInt64SS : FnA := ⟨ac_laws_szInt64SS, [.tmp 4], 27, false, true, [], .any, none⟩

/-- The checked code of laws szInt64SSS. -/
def lb_laws_szInt64SSS_0 : AC := (.seq (.seq (.post (.reg [⟨(some 12), .op (.mv (.tmp 5)), none⟩,
    ⟨(some 13), .op (.mv (.tmp 0)), none⟩,
    ⟨(some 14), .op (.len false (.tmp 13)), none⟩,
    ⟨(some 15), .op (.bin .lss (.tmp 12) (.tmp 14)), none⟩]) (.kill [12, 13, 14]))
  (.cond (.tmp 15) (.ghost (.kill [15]) .skip)
  (.ghost (.kill [0, 5, 15]) (.exit 0))))
  (.seq (.block 1 (.seq (.post (.reg [⟨(some 18), .op (.mv (.tmp 0)), none⟩,
    ⟨(some 19), .op (.mv (.tmp 5)), none⟩,
    ⟨(some 20), .op (.iaddrS (.tmp 18) (.tmp 19) 1), none⟩,
    ⟨(some 21), .op (.load 1 false (.tmp 20)), none⟩,
    ⟨(some 22), .op (.mv (.tmp 1)), none⟩,
    ⟨(some 23), .call (.func i_laws_szInt64SS) [(.tmp 21), (.tmp 22)], none⟩,
    ⟨(some 1), .op (.mv (.tmp 23)), none⟩]) (.kill [18, 19, 20, 21, 22, 23]))
  (.seq (.post (.reg [⟨(some 24), .op (.mv (.tmp 1)), none⟩,
    ⟨(some 25), .op (.bin .lss (.tmp 24) (.const (Value.int .i64 0))), none⟩]) (.kill [24]))
  (.cond (.tmp 25) (.ghost (.kill [0, 1, 5, 25]) (.seq (.reg [⟨(some 4), .op (.mv (.const (Value.int .i64 (-1)))), none⟩])
  .ret))
  (.ghost (.kill [25]) .skip)))))
  (.post (.reg [⟨(some 16), .op (.mv (.tmp 5)), none⟩,
    ⟨(some 17), .op (.bin .add (.tmp 16) (.const (Value.int .i64 1))), none⟩,
    ⟨(some 5), .op (.mv (.tmp 17)), none⟩]) (.kill [16, 17]))))
def lo_laws_szInt64SSS_0 : AC := (.loop lb_laws_szInt64SSS_0)
def ac_laws_szInt64SSS : AC := (.seq (.post (.reg [⟨(some 4), .op (.mv (.const (Value.int .i64 0))), none⟩]) (.kill [4]))
  (.seq (.post (.reg [⟨(some 6), .op (.mv (.tmp 1)), none⟩,
    ⟨(some 7), .op (.mv (.tmp 0)), none⟩,
    ⟨(some 8), .op (.len false (.tmp 7)), none⟩,
    ⟨(some 9), .op (.bin .sub (.tmp 6) (.tmp 8)), none⟩,
    ⟨(some 1), .op (.mv (.tmp 9)), none⟩]) (.kill [6, 7, 8, 9]))
  (.seq (.seq (.post (.reg [⟨(some 10), .op (.mv (.tmp 1)), none⟩,
    ⟨(some 11), .op (.bin .lss (.tmp 10) (.const (Value.int .i64 0))), none⟩]) (.kill [10]))
  (.cond (.tmp 11) (.ghost (.kill [0, 1, 11]) (.seq (.reg [⟨(some 4), .op (.mv (.const (Value.int .i64 (-1)))), none⟩])
  .ret))
  (.ghost (.kill [11]) .skip)))
  (.seq (.seq (.reg [⟨(some 5), .op (.mv (.const (Value.int .i64 0))), none⟩])
  (.block 0 lo_laws_szInt64SSS_0))
  (.ghost (.kill [0, 5]) (.seq (.post (.reg [⟨(some 26), .op (.mv (.tmp 1)), none⟩,
    ⟨(some 4), .op (.mv (.tmp 26)), none⟩]) (.kill [1, 26]))
  .ret))))))
theorem cf_laws_szInt64SSS : chkFn Try.prog i_laws_szInt64SSS ac_laws_szInt64SSS [.tmp 4] 27 = true := by decide +kernel
def fa_laws_szInt64SSS : FnA := ⟨ac_laws_szInt64SSS, [.tmp 4], 27, false, true, [], .any, none⟩

/-- The checked code of laws szChecker. -/
def ac_laws_szChecker : AC := (.seq (.post (.reg [⟨(some 2), .op (.box true (.tmp 0)), none⟩,
    ⟨(some 4), .op (.mv (.const (Value.int .i64 0))), none⟩]) (.kill [0, 4]))
  (.seq (.post (.reg [⟨(some 5), .op (.faddr (.tmp 2) 2), none⟩,
    ⟨(some 6), .op (.load 1 false (.tmp 5)), none⟩,
    ⟨(some 7), .op (.mv (.tmp 1)), none⟩,
    ⟨(some 8), .call (.func i_laws_szBoolS) [(.tmp 6), (.tmp 7)], none⟩,
    ⟨(some 1), .op (.mv (.tmp 8)), none⟩]) (.kill [5, 6, 7, 8]))
  (.seq (.seq (.post (.reg [⟨(some 9), .op (.mv (.tmp 1)), none⟩,
    ⟨(some 10), .op (.bin .lss (.tmp 9) (.const (Value.int .i64 0))), none⟩]) (.kill [9]))
  (.cond (.tmp 10) (.ghost (.kill [1, 2, 10]) (.seq (.reg [⟨(some 4), .op (.mv (.const (Value.int .i64 (-1)))), none⟩])
  .ret))
  (.ghost (.kill [10]) .skip)))
  (.seq (.post (.reg [⟨(some 11), .op (.faddr (.tmp 2) 3), none⟩,
    ⟨(some 12), .op (.load 1 false (.tmp 11)), none⟩,
    ⟨(some 13), .op (.mv (.tmp 1)), none⟩,
    ⟨(some 14), .call (.func i_laws_szPushSS) [(.tmp 12), (.tmp 13)], none⟩,
    ⟨(some 1), .op (.mv (.tmp 14)), none⟩]) (.kill [11, 12, 13, 14]))
  (.seq (.seq (.post (.reg [⟨(some 15), .op (.mv (.tmp 1)), none⟩,
    ⟨(some 16), .op (.bin .lss (.tmp 15) (.const (Value.int .i64 0))), none⟩]) (.kill [15]))
  (.cond (.tmp 16) (.ghost (.kill [1, 2, 16]) (.seq (.reg [⟨(some 4), .op (.mv (.const (Value.int .i64 (-1)))), none⟩])
  .ret))
  (.ghost (.kill [16]) .skip)))
  (.seq (.post (.reg [⟨(some 17), .op (.faddr (.tmp 2) 4), none⟩,
    ⟨(some 18), .op (.load 1 false (.tmp 17)), none⟩,
    ⟨(some 19), .op (.mv (.tmp 1)), none⟩,
    ⟨(some 20), .call (.func i_laws_szInt64SSS) [(.tmp 18), (.tmp 19)], none⟩,
    ⟨(some 1), .op (.mv (.tmp 20)), none⟩]) (.kill [17, 18, 19, 20]))
  (.seq (.seq (.post (.reg [⟨(some 21), .op (.mv (.tmp 1)), none⟩,
    ⟨(some 22), .op (.bin .lss (.tmp 21) (.const (Value.int .i64 0))), none⟩]) (.kill [21]))
  (.cond (.tmp 22) (.ghost (.kill [1, 2, 22]) (.seq (.reg [⟨(some 4), .op (.mv (.const (Value.int .i64 (-1)))), none⟩])
  .ret))
  (.ghost (.kill [22]) .skip)))
  (.seq (.post (.reg [⟨(some 23), .op (.faddr (.tmp 2) 5), none⟩,
    ⟨(some 24), .op (.load 1 false (.tmp 23)), none⟩,
    ⟨(some 25), .op (.mv (.tmp 1)), none⟩,
    ⟨(some 26), .call (.func i_laws_szInt64SS) [(.tmp 24), (.tmp 25)], none⟩,
    ⟨(some 1), .op (.mv (.tmp 26)), none⟩]) (.kill [2, 23, 24, 25, 26]))
  (.seq (.seq (.post (.reg [⟨(some 27), .op (.mv (.tmp 1)), none⟩,
    ⟨(some 28), .op (.bin .lss (.tmp 27) (.const (Value.int .i64 0))), none⟩]) (.kill [27]))
  (.cond (.tmp 28) (.ghost (.kill [1, 28]) (.seq (.reg [⟨(some 4), .op (.mv (.const (Value.int .i64 (-1)))), none⟩])
  .ret))
  (.ghost (.kill [28]) .skip)))
  (.seq (.post (.reg [⟨(some 29), .op (.mv (.tmp 1)), none⟩,
    ⟨(some 4), .op (.mv (.tmp 29)), none⟩]) (.kill [1, 29]))
  .ret))))))))))
theorem cf_laws_szChecker : chkFn Try.prog i_laws_szChecker ac_laws_szChecker [.tmp 4] 30 = true := by decide +kernel
def fa_laws_szChecker : FnA := ⟨ac_laws_szChecker, [.tmp 4], 30, false, true, [], .any, none⟩

/-- The checked code of laws toBoolS. -/
def lb_laws_toBoolS_0 : AC := (.seq (.seq (.post (.reg [⟨(some 8), .op (.mv (.tmp 4)), none⟩,
    ⟨(some 9), .op (.mv (.tmp 0)), none⟩,
    ⟨(some 10), .op (.len false (.tmp 9)), none⟩,
    ⟨(some 11), .op (.bin .lss (.tmp 8) (.tmp 10)), none⟩]) (.kill [8, 9, 10]))
  (.cond (.tmp 11) (.ghost (.kill [11]) .skip)
  (.ghost (.kill [0, 4, 11]) (.exit 0))))
  (.seq (.block 1 (.post (.reg [⟨(some 14), .op (.mv (.tmp 3)), none⟩,
    ⟨(some 15), .op (.mv (.tmp 4)), none⟩,
    ⟨(some 16), .op (.mv (.tmp 0)), none⟩,
    ⟨(some 17), .op (.mv (.tmp 4)), none⟩,
    ⟨(some 18), .op (.iaddrS (.tmp 16) (.tmp 17) 1), none⟩,
    ⟨(some 19), .op (.load 1 false (.tmp 18)), none⟩,
    ⟨(some 20), .op (.iaddrS (.tmp 14) (.tmp 15) 1), none⟩,
    ⟨none, .op (.store 1 (.tmp 20) (.tmp 19)), none⟩]) (.kill [14, 15, 16, 17, 18, 19, 20])))
  (.post (.reg [⟨(some 12), .op (.mv (.tmp 4)), none⟩,
    ⟨(some 13), .op (.bin .add (.tmp 12) (.const (Value.int .i64 1))), none⟩,
    ⟨(some 4), .op (.mv (.tmp 13)), none⟩]) (.kill [12, 13]))))
def lo_laws_toBoolS_0 : AC := (.loop lb_laws_toBoolS_0)
def ac_laws_toBoolS : AC := (.seq (.post (.reg [⟨(some 2), .op (.mv (.const (Value.slice none 0 0))), none⟩]) (.kill [2]))
  (.seq (.post (.reg [⟨(some 5), .op (.mv (.tmp 0)), none⟩,
    ⟨(some 6), .op (.len false (.tmp 5)), none⟩,
    ⟨(some 7), .op (.make (.tmp 6) (.tmp 6) 1 1 (Value.bool false)), none⟩,
    ⟨(some 3), .op (.mv (.tmp 7)), none⟩]) (.kill [5, 6, 7]))
  (.seq (.seq (.reg [⟨(some 4), .op (.mv (.const (Value.int .i64 0))), none⟩])
  (.block 0 lo_laws_toBoolS_0))
  (.ghost (.kill [0, 4]) (.seq (.post (.reg [⟨(some 21), .op (.mv (.tmp 3)), none⟩,
    ⟨(some 2), .op (.mv (.tmp 21)), none⟩]) (.kill [3, 21]))
  .ret)))))
theorem cf_laws_toBoolS : chkFn Try.prog i_laws_toBoolS ac_laws_toBoolS [.tmp 2] 22 = true := by decide +kernel
def fa_laws_toBoolS : FnA := ⟨ac_laws_toBoolS, [.tmp 2], 22, false, false, [], .any, none⟩

/-- The checked code of laws toPush. -/
def ac_laws_toPush : AC := (.seq (.post (.reg [⟨(some 1), .op (.box true (.tmp 0)), none⟩,
    ⟨(some 2), .op (.alloc (Value.agg #[Value.int .i64 0, Value.int .i64 0])), none⟩]) (.kill [0]))
  (.seq (.reg [⟨(some 3), .op (.alloc (Value.agg #[Value.int .i64 0, Value.int .i64 0])), none⟩])
  (.seq (.post (.reg [⟨(some 4), .op (.faddr (.tmp 1) 0), none⟩,
    ⟨(some 5), .op (.load 1 false (.tmp 4)), none⟩,
    ⟨(some 6), .op (.faddr (.tmp 3) 0), none⟩,
    ⟨none, .op (.store 1 (.tmp 6) (.tmp 5)), none⟩]) (.kill [4, 5, 6]))
  (.seq (.post (.reg [⟨(some 7), .op (.faddr (.tmp 1) 1), none⟩,
    ⟨(some 8), .op (.load 1 false (.tmp 7)), none⟩,
    ⟨(some 9), .op (.faddr (.tmp 3) 1), none⟩,
    ⟨none, .op (.store 1 (.tmp 9) (.tmp 8)), none⟩]) (.kill [1, 7, 8, 9]))
  (.seq (.post (.reg [⟨(some 10), .op (.load 2 true (.tmp 3)), none⟩,
    ⟨none, .op (.store 2 (.tmp 2) (.tmp 10)), none⟩]) (.kill [3, 10]))
  .ret)))))
theorem cf_laws_toPush : chkFn Try.prog i_laws_toPush ac_laws_toPush [.cell 2 2 true] 11 = true := by decide +kernel
def fa_laws_toPush : FnA := ⟨ac_laws_toPush, [.cell 2 2 true], 11, false, false, [], .any, none⟩

/-- The checked code of laws toPushS. -/
def lb_laws_toPushS_0 : AC := (.seq (.seq (.post (.reg [⟨(some 8), .op (.mv (.tmp 4)), none⟩,
    ⟨(some 9), .op (.mv (.tmp 0)), none⟩,
    ⟨(some 10), .op (.len false (.tmp 9)), none⟩,
    ⟨(some 11), .op (.bin .lss (.tmp 8) (.tmp 10)), none⟩]) (.kill [8, 9, 10]))
  (.cond (.tmp 11) (.ghost (.kill [11]) .skip)
  (.ghost (.kill [0, 4, 11]) (.exit 0))))
  (.seq (.block 1 (.post (.reg [⟨(some 14), .op (.mv (.tmp 3)), none⟩,
    ⟨(some 15), .op (.mv (.tmp 4)), none⟩,
    ⟨(some 16), .op (.mv (.tmp 0)), none⟩,
    ⟨(some 17), .op (.mv (.tmp 4)), none⟩,
    ⟨(some 18), .op (.iaddrS (.tmp 16) (.tmp 17) 2), none⟩,
    ⟨(some 19), .op (.load 2 true (.tmp 18)), none⟩,
    ⟨(some 20), .call (.func i_laws_toPush) [(.tmp 19)], none⟩,
    ⟨(some 21), .op (.iaddrS (.tmp 14) (.tmp 15) 2), none⟩,
    ⟨none, .op (.store 2 (.tmp 21) (.tmp 20)), none⟩]) (.kill [14, 15, 16, 17, 18, 19, 20, 21])))
  (.post (.reg [⟨(some 12), .op (.mv (.tmp 4)), none⟩,
    ⟨(some 13), .op (.bin .add (.tmp 12) (.const (Value.int .i64 1))), none⟩,
    ⟨(some 4), .op (.mv (.tmp 13)), none⟩]) (.kill [12, 13]))))
def lo_laws_toPushS_0 : AC := (.loop lb_laws_toPushS_0)
def ac_laws_toPushS : AC := (.seq (.post (.reg [⟨(some 2), .op (.mv (.const (Value.slice none 0 0))), none⟩]) (.kill [2]))
  (.seq (.post (.reg [⟨(some 5), .op (.mv (.tmp 0)), none⟩,
    ⟨(some 6), .op (.len false (.tmp 5)), none⟩,
    ⟨(some 7), .op (.make (.tmp 6) (.tmp 6) 2 16 (Value.agg #[Value.int .i64 0, Value.int .i64 0])), none⟩,
    ⟨(some 3), .op (.mv (.tmp 7)), none⟩]) (.kill [5, 6, 7]))
  (.seq (.seq (.reg [⟨(some 4), .op (.mv (.const (Value.int .i64 0))), none⟩])
  (.block 0 lo_laws_toPushS_0))
  (.ghost (.kill [0, 4]) (.seq (.post (.reg [⟨(some 22), .op (.mv (.tmp 3)), none⟩,
    ⟨(some 2), .op (.mv (.tmp 22)), none⟩]) (.kill [3, 22]))
  .ret)))))
theorem cf_laws_toPushS : chkFn Try.prog i_laws_toPushS ac_laws_toPushS [.tmp 2] 23 = true := by decide +kernel
def fa_laws_toPushS : FnA := ⟨ac_laws_toPushS, [.tmp 2], 23, false, false, [], .any, none⟩

/-- The checked code of laws toPushSS. -/
def lb_laws_toPushSS_0 : AC := (.seq (.seq (.post (.reg [⟨(some 8), .op (.mv (.tmp 4)), none⟩,
    ⟨(some 9), .op (.mv (.tmp 0)), none⟩,
    ⟨(some 10), .op (.len false (.tmp 9)), none⟩,
    ⟨(some 11), .op (.bin .lss (.tmp 8) (.tmp 10)), none⟩]) (.kill [8, 9, 10]))
  (.cond (.tmp 11) (.ghost (.kill [11]) .skip)
  (.ghost (.kill [0, 4, 11]) (.exit 0))))
  (.seq (.block 1 (.post (.reg [⟨(some 14), .op (.mv (.tmp 3)), none⟩,
    ⟨(some 15), .op (.mv (.tmp 4)), none⟩,
    ⟨(some 16), .op (.mv (.tmp 0)), none⟩,
    ⟨(some 17), .op (.mv (.tmp 4)), none⟩,
    ⟨(some 18), .op (.iaddrS (.tmp 16) (.tmp 17) 1), none⟩,
    ⟨(some 19), .op (.load 1 false (.tmp 18)), none⟩,
    ⟨(some 20), .call (.func i_laws_toPushS) [(.tmp 19)], none⟩,
    ⟨(some 21), .op (.iaddrS (.tmp 14) (.tmp 15) 1), none⟩,
    ⟨none, .op (.store 1 (.tmp 21) (.tmp 20)), none⟩]) (.kill [14, 15, 16, 17, 18, 19, 20, 21])))
  (.post (.reg [⟨(some 12), .op (.mv (.tmp 4)), none⟩,
    ⟨(some 13), .op (.bin .add (.tmp 12) (.const (Value.int .i64 1))), none⟩,
    ⟨(some 4), .op (.mv (.tmp 13)), none⟩]) (.kill [12, 13]))))
def lo_laws_toPushSS_0 : AC := (.loop lb_laws_toPushSS_0)
def ac_laws_toPushSS : AC := (.seq (.post (.reg [⟨(some 2), .op (.mv (.const (Value.slice none 0 0))), none⟩]) (.kill [2]))
  (.seq (.post (.reg [⟨(some 5), .op (.mv (.tmp 0)), none⟩,
    ⟨(some 6), .op (.len false (.tmp 5)), none⟩,
    ⟨(some 7), .op (.make (.tmp 6) (.tmp 6) 1 24 (Value.slice none 0 0)), none⟩,
    ⟨(some 3), .op (.mv (.tmp 7)), none⟩]) (.kill [5, 6, 7]))
  (.seq (.seq (.reg [⟨(some 4), .op (.mv (.const (Value.int .i64 0))), none⟩])
  (.block 0 lo_laws_toPushSS_0))
  (.ghost (.kill [0, 4]) (.seq (.post (.reg [⟨(some 22), .op (.mv (.tmp 3)), none⟩,
    ⟨(some 2), .op (.mv (.tmp 22)), none⟩]) (.kill [3, 22]))
  .ret)))))
theorem cf_laws_toPushSS : chkFn Try.prog i_laws_toPushSS ac_laws_toPushSS [.tmp 2] 23 = true := by decide +kernel
def fa_laws_toPushSS : FnA := ⟨ac_laws_toPushSS, [.tmp 2], 23, false, false, [], .any, none⟩

/-- The checked code of laws toInt64S. -/
def lb_laws_toInt64S_0 : AC := (.seq (.seq (.post (.reg [⟨(some 8), .op (.mv (.tmp 4)), none⟩,
    ⟨(some 9), .op (.mv (.tmp 0)), none⟩,
    ⟨(some 10), .op (.len false (.tmp 9)), none⟩,
    ⟨(some 11), .op (.bin .lss (.tmp 8) (.tmp 10)), none⟩]) (.kill [8, 9, 10]))
  (.cond (.tmp 11) (.ghost (.kill [11]) .skip)
  (.ghost (.kill [0, 4, 11]) (.exit 0))))
  (.seq (.block 1 (.post (.reg [⟨(some 14), .op (.mv (.tmp 3)), none⟩,
    ⟨(some 15), .op (.mv (.tmp 4)), none⟩,
    ⟨(some 16), .op (.mv (.tmp 0)), none⟩,
    ⟨(some 17), .op (.mv (.tmp 4)), none⟩,
    ⟨(some 18), .op (.iaddrS (.tmp 16) (.tmp 17) 1), none⟩,
    ⟨(some 19), .op (.load 1 false (.tmp 18)), none⟩,
    ⟨(some 20), .op (.iaddrS (.tmp 14) (.tmp 15) 1), none⟩,
    ⟨none, .op (.store 1 (.tmp 20) (.tmp 19)), none⟩]) (.kill [14, 15, 16, 17, 18, 19, 20])))
  (.post (.reg [⟨(some 12), .op (.mv (.tmp 4)), none⟩,
    ⟨(some 13), .op (.bin .add (.tmp 12) (.const (Value.int .i64 1))), none⟩,
    ⟨(some 4), .op (.mv (.tmp 13)), none⟩]) (.kill [12, 13]))))
def lo_laws_toInt64S_0 : AC := (.loop lb_laws_toInt64S_0)
def ac_laws_toInt64S : AC := (.seq (.post (.reg [⟨(some 2), .op (.mv (.const (Value.slice none 0 0))), none⟩]) (.kill [2]))
  (.seq (.post (.reg [⟨(some 5), .op (.mv (.tmp 0)), none⟩,
    ⟨(some 6), .op (.len false (.tmp 5)), none⟩,
    ⟨(some 7), .op (.make (.tmp 6) (.tmp 6) 1 8 (Value.int .i64 0)), none⟩,
    ⟨(some 3), .op (.mv (.tmp 7)), none⟩]) (.kill [5, 6, 7]))
  (.seq (.seq (.reg [⟨(some 4), .op (.mv (.const (Value.int .i64 0))), none⟩])
  (.block 0 lo_laws_toInt64S_0))
  (.ghost (.kill [0, 4]) (.seq (.post (.reg [⟨(some 21), .op (.mv (.tmp 3)), none⟩,
    ⟨(some 2), .op (.mv (.tmp 21)), none⟩]) (.kill [3, 21]))
  .ret)))))
theorem cf_laws_toInt64S : chkFn Try.prog i_laws_toInt64S ac_laws_toInt64S [.tmp 2] 22 = true := by decide +kernel
def fa_laws_toInt64S : FnA := ⟨ac_laws_toInt64S, [.tmp 2], 22, false, false, [], .any, none⟩

/-- The checked code of laws toInt64SS. -/
def lb_laws_toInt64SS_0 : AC := (.seq (.seq (.post (.reg [⟨(some 8), .op (.mv (.tmp 4)), none⟩,
    ⟨(some 9), .op (.mv (.tmp 0)), none⟩,
    ⟨(some 10), .op (.len false (.tmp 9)), none⟩,
    ⟨(some 11), .op (.bin .lss (.tmp 8) (.tmp 10)), none⟩]) (.kill [8, 9, 10]))
  (.cond (.tmp 11) (.ghost (.kill [11]) .skip)
  (.ghost (.kill [0, 4, 11]) (.exit 0))))
  (.seq (.block 1 (.post (.reg [⟨(some 14), .op (.mv (.tmp 3)), none⟩,
    ⟨(some 15), .op (.mv (.tmp 4)), none⟩,
    ⟨(some 16), .op (.mv (.tmp 0)), none⟩,
    ⟨(some 17), .op (.mv (.tmp 4)), none⟩,
    ⟨(some 18), .op (.iaddrS (.tmp 16) (.tmp 17) 1), none⟩,
    ⟨(some 19), .op (.load 1 false (.tmp 18)), none⟩,
    ⟨(some 20), .call (.func i_laws_toInt64S) [(.tmp 19)], none⟩,
    ⟨(some 21), .op (.iaddrS (.tmp 14) (.tmp 15) 1), none⟩,
    ⟨none, .op (.store 1 (.tmp 21) (.tmp 20)), none⟩]) (.kill [14, 15, 16, 17, 18, 19, 20, 21])))
  (.post (.reg [⟨(some 12), .op (.mv (.tmp 4)), none⟩,
    ⟨(some 13), .op (.bin .add (.tmp 12) (.const (Value.int .i64 1))), none⟩,
    ⟨(some 4), .op (.mv (.tmp 13)), none⟩]) (.kill [12, 13]))))
def lo_laws_toInt64SS_0 : AC := (.loop lb_laws_toInt64SS_0)
def ac_laws_toInt64SS : AC := (.seq (.post (.reg [⟨(some 2), .op (.mv (.const (Value.slice none 0 0))), none⟩]) (.kill [2]))
  (.seq (.post (.reg [⟨(some 5), .op (.mv (.tmp 0)), none⟩,
    ⟨(some 6), .op (.len false (.tmp 5)), none⟩,
    ⟨(some 7), .op (.make (.tmp 6) (.tmp 6) 1 24 (Value.slice none 0 0)), none⟩,
    ⟨(some 3), .op (.mv (.tmp 7)), none⟩]) (.kill [5, 6, 7]))
  (.seq (.seq (.reg [⟨(some 4), .op (.mv (.const (Value.int .i64 0))), none⟩])
  (.block 0 lo_laws_toInt64SS_0))
  (.ghost (.kill [0, 4]) (.seq (.post (.reg [⟨(some 22), .op (.mv (.tmp 3)), none⟩,
    ⟨(some 2), .op (.mv (.tmp 22)), none⟩]) (.kill [3, 22]))
  .ret)))))
theorem cf_laws_toInt64SS : chkFn Try.prog i_laws_toInt64SS ac_laws_toInt64SS [.tmp 2] 23 = true := by decide +kernel
def fa_laws_toInt64SS : FnA := ⟨ac_laws_toInt64SS, [.tmp 2], 23, false, false, [], .any, none⟩

/-- The checked code of laws toInt64SSS. -/
def lb_laws_toInt64SSS_0 : AC := (.seq (.seq (.post (.reg [⟨(some 8), .op (.mv (.tmp 4)), none⟩,
    ⟨(some 9), .op (.mv (.tmp 0)), none⟩,
    ⟨(some 10), .op (.len false (.tmp 9)), none⟩,
    ⟨(some 11), .op (.bin .lss (.tmp 8) (.tmp 10)), none⟩]) (.kill [8, 9, 10]))
  (.cond (.tmp 11) (.ghost (.kill [11]) .skip)
  (.ghost (.kill [0, 4, 11]) (.exit 0))))
  (.seq (.block 1 (.post (.reg [⟨(some 14), .op (.mv (.tmp 3)), none⟩,
    ⟨(some 15), .op (.mv (.tmp 4)), none⟩,
    ⟨(some 16), .op (.mv (.tmp 0)), none⟩,
    ⟨(some 17), .op (.mv (.tmp 4)), none⟩,
    ⟨(some 18), .op (.iaddrS (.tmp 16) (.tmp 17) 1), none⟩,
    ⟨(some 19), .op (.load 1 false (.tmp 18)), none⟩,
    ⟨(some 20), .call (.func i_laws_toInt64SS) [(.tmp 19)], none⟩,
    ⟨(some 21), .op (.iaddrS (.tmp 14) (.tmp 15) 1), none⟩,
    ⟨none, .op (.store 1 (.tmp 21) (.tmp 20)), none⟩]) (.kill [14, 15, 16, 17, 18, 19, 20, 21])))
  (.post (.reg [⟨(some 12), .op (.mv (.tmp 4)), none⟩,
    ⟨(some 13), .op (.bin .add (.tmp 12) (.const (Value.int .i64 1))), none⟩,
    ⟨(some 4), .op (.mv (.tmp 13)), none⟩]) (.kill [12, 13]))))
def lo_laws_toInt64SSS_0 : AC := (.loop lb_laws_toInt64SSS_0)
def ac_laws_toInt64SSS : AC := (.seq (.post (.reg [⟨(some 2), .op (.mv (.const (Value.slice none 0 0))), none⟩]) (.kill [2]))
  (.seq (.post (.reg [⟨(some 5), .op (.mv (.tmp 0)), none⟩,
    ⟨(some 6), .op (.len false (.tmp 5)), none⟩,
    ⟨(some 7), .op (.make (.tmp 6) (.tmp 6) 1 24 (Value.slice none 0 0)), none⟩,
    ⟨(some 3), .op (.mv (.tmp 7)), none⟩]) (.kill [5, 6, 7]))
  (.seq (.seq (.reg [⟨(some 4), .op (.mv (.const (Value.int .i64 0))), none⟩])
  (.block 0 lo_laws_toInt64SSS_0))
  (.ghost (.kill [0, 4]) (.seq (.post (.reg [⟨(some 22), .op (.mv (.tmp 3)), none⟩,
    ⟨(some 2), .op (.mv (.tmp 22)), none⟩]) (.kill [3, 22]))
  .ret)))))
theorem cf_laws_toInt64SSS : chkFn Try.prog i_laws_toInt64SSS ac_laws_toInt64SSS [.tmp 2] 23 = true := by decide +kernel
def fa_laws_toInt64SSS : FnA := ⟨ac_laws_toInt64SSS, [.tmp 2], 23, false, false, [], .any, none⟩

/-- The checked code of laws toChecker. -/
def ac_laws_toChecker : AC := (.seq (.post (.reg [⟨(some 1), .op (.box true (.tmp 0)), none⟩,
    ⟨(some 2), .op (.alloc (Value.agg #[Value.int .i64 0, Value.int .i64 0, Value.slice none 0 0, Value.slice none 0 0, Value.slice none 0 0, Value.slice none 0 0])), none⟩]) (.kill [0]))
  (.seq (.reg [⟨(some 3), .op (.alloc (Value.agg #[Value.int .i64 0, Value.int .i64 0, Value.slice none 0 0, Value.slice none 0 0, Value.slice none 0 0, Value.slice none 0 0])), none⟩])
  (.seq (.post (.reg [⟨(some 4), .op (.faddr (.tmp 1) 0), none⟩,
    ⟨(some 5), .op (.load 1 false (.tmp 4)), none⟩,
    ⟨(some 6), .op (.faddr (.tmp 3) 0), none⟩,
    ⟨none, .op (.store 1 (.tmp 6) (.tmp 5)), none⟩]) (.kill [4, 5, 6]))
  (.seq (.post (.reg [⟨(some 7), .op (.faddr (.tmp 1) 1), none⟩,
    ⟨(some 8), .op (.load 1 false (.tmp 7)), none⟩,
    ⟨(some 9), .op (.faddr (.tmp 3) 1), none⟩,
    ⟨none, .op (.store 1 (.tmp 9) (.tmp 8)), none⟩]) (.kill [7, 8, 9]))
  (.seq (.post (.reg [⟨(some 10), .op (.faddr (.tmp 1) 2), none⟩,
    ⟨(some 11), .op (.load 1 false (.tmp 10)), none⟩,
    ⟨(some 12), .call (.func i_laws_toBoolS) [(.tmp 11)], none⟩,
    ⟨(some 13), .op (.faddr (.tmp 3) 2), none⟩,
    ⟨none, .op (.store 1 (.tmp 13) (.tmp 12)), none⟩]) (.kill [10, 11, 12, 13]))
  (.seq (.post (.reg [⟨(some 14), .op (.faddr (.tmp 1) 3), none⟩,
    ⟨(some 15), .op (.load 1 false (.tmp 14)), none⟩,
    ⟨(some 16), .call (.func i_laws_toPushSS) [(.tmp 15)], none⟩,
    ⟨(some 17), .op (.faddr (.tmp 3) 3), none⟩,
    ⟨none, .op (.store 1 (.tmp 17) (.tmp 16)), none⟩]) (.kill [14, 15, 16, 17]))
  (.seq (.post (.reg [⟨(some 18), .op (.faddr (.tmp 1) 4), none⟩,
    ⟨(some 19), .op (.load 1 false (.tmp 18)), none⟩,
    ⟨(some 20), .call (.func i_laws_toInt64SSS) [(.tmp 19)], none⟩,
    ⟨(some 21), .op (.faddr (.tmp 3) 4), none⟩,
    ⟨none, .op (.store 1 (.tmp 21) (.tmp 20)), none⟩]) (.kill [18, 19, 20, 21]))
  (.seq (.post (.reg [⟨(some 22), .op (.faddr (.tmp 1) 5), none⟩,
    ⟨(some 23), .op (.load 1 false (.tmp 22)), none⟩,
    ⟨(some 24), .call (.func i_laws_toInt64SS) [(.tmp 23)], none⟩,
    ⟨(some 25), .op (.faddr (.tmp 3) 5), none⟩,
    ⟨none, .op (.store 1 (.tmp 25) (.tmp 24)), none⟩]) (.kill [1, 22, 23, 24, 25]))
  (.seq (.post (.reg [⟨(some 26), .op (.load 6 true (.tmp 3)), none⟩,
    ⟨none, .op (.store 6 (.tmp 2) (.tmp 26)), none⟩]) (.kill [3, 26]))
  .ret)))))))))
theorem cf_laws_toChecker : chkFn Try.prog i_laws_toChecker ac_laws_toChecker [.cell 2 6 true] 27 = true := by decide +kernel
def fa_laws_toChecker : FnA := ⟨ac_laws_toChecker, [.cell 2 6 true], 27, false, false, [], .any, none⟩

/-- The checked code of laws eqBoolS. -/
def lb_laws_eqBoolS_0 : AC := (.seq (.seq (.post (.reg [⟨(some 11), .op (.mv (.tmp 5)), none⟩,
    ⟨(some 12), .op (.mv (.tmp 0)), none⟩,
    ⟨(some 13), .op (.len false (.tmp 12)), none⟩,
    ⟨(some 14), .op (.bin .lss (.tmp 11) (.tmp 13)), none⟩]) (.kill [11, 12, 13]))
  (.cond (.tmp 14) (.ghost (.kill [14]) .skip)
  (.ghost (.kill [0, 1, 5, 14]) (.exit 0))))
  (.seq (.block 1 (.seq (.post (.draw [⟨0, ⟨(some 17), .op (.mv (.tmp 0)), none⟩, []⟩,
    ⟨1, ⟨(some 18), .op (.mv (.tmp 5)), none⟩, []⟩,
    ⟨2, ⟨(some 19), .op (.iaddrS (.tmp 17) (.tmp 18) 1), none⟩, []⟩,
    ⟨3, ⟨(some 20), .op (.load 1 false (.tmp 19)), none⟩, []⟩,
    ⟨4, ⟨(some 21), .op (.mv (.tmp 1)), none⟩, []⟩,
    ⟨5, ⟨(some 22), .op (.mv (.tmp 5)), none⟩, []⟩,
    ⟨6, ⟨(some 23), .op (.iaddrS (.tmp 21) (.tmp 22) 1), none⟩, []⟩,
    ⟨7, ⟨(some 24), .op (.load 1 false (.tmp 23)), none⟩, []⟩,
    ⟨8, ⟨(some 25), .op (.eqb true (.tmp 20) (.tmp 24)), none⟩, []⟩]
    [0, 0, 3, 7, 0, 0, 48, 112, 255]) (.kill [17, 18, 19, 20, 21, 22, 23, 24]))
  (.cond (.tmp 25) (.ghost (.kill [0, 1, 5, 25]) (.seq (.reg [⟨(some 4), .op (.mv (.const (Value.bool false))), none⟩])
  .ret))
  (.ghost (.kill [25]) .skip))))
  (.post (.reg [⟨(some 15), .op (.mv (.tmp 5)), none⟩,
    ⟨(some 16), .op (.bin .add (.tmp 15) (.const (Value.int .i64 1))), none⟩,
    ⟨(some 5), .op (.mv (.tmp 16)), none⟩]) (.kill [15, 16]))))
def lo_laws_eqBoolS_0 : AC := (.loop lb_laws_eqBoolS_0)
def ac_laws_eqBoolS : AC := (.seq (.post (.reg [⟨(some 4), .op (.mv (.const (Value.bool false))), none⟩]) (.kill [4]))
  (.seq (.seq (.post (.reg [⟨(some 6), .op (.mv (.tmp 0)), none⟩,
    ⟨(some 7), .op (.len false (.tmp 6)), none⟩,
    ⟨(some 8), .op (.mv (.tmp 1)), none⟩,
    ⟨(some 9), .op (.len false (.tmp 8)), none⟩,
    ⟨(some 10), .op (.bin .neq (.tmp 7) (.tmp 9)), none⟩]) (.kill [6, 7, 8, 9]))
  (.cond (.tmp 10) (.ghost (.kill [0, 1, 10]) (.seq (.reg [⟨(some 4), .op (.mv (.const (Value.bool false))), none⟩])
  .ret))
  (.ghost (.kill [10]) .skip)))
  (.seq (.seq (.reg [⟨(some 5), .op (.mv (.const (Value.int .i64 0))), none⟩])
  (.block 0 lo_laws_eqBoolS_0))
  (.ghost (.kill [0, 1, 5]) (.seq (.reg [⟨(some 4), .op (.mv (.const (Value.bool true))), none⟩])
  .ret)))))
theorem cf_laws_eqBoolS : chkFn Try.prog i_laws_eqBoolS ac_laws_eqBoolS [.tmp 4] 26 = true := by decide +kernel
def fa_laws_eqBoolS : FnA := ⟨ac_laws_eqBoolS, [.tmp 4], 26, false, true, [], .any, none⟩

/-- The checked code of laws eqInt64S. -/
def lb_laws_eqInt64S_0 : AC := (.seq (.seq (.post (.reg [⟨(some 11), .op (.mv (.tmp 5)), none⟩,
    ⟨(some 12), .op (.mv (.tmp 0)), none⟩,
    ⟨(some 13), .op (.len false (.tmp 12)), none⟩,
    ⟨(some 14), .op (.bin .lss (.tmp 11) (.tmp 13)), none⟩]) (.kill [11, 12, 13]))
  (.cond (.tmp 14) (.ghost (.kill [14]) .skip)
  (.ghost (.kill [0, 1, 5, 14]) (.exit 0))))
  (.seq (.block 1 (.seq (.post (.draw [⟨0, ⟨(some 17), .op (.mv (.tmp 0)), none⟩, []⟩,
    ⟨1, ⟨(some 18), .op (.mv (.tmp 5)), none⟩, []⟩,
    ⟨2, ⟨(some 19), .op (.iaddrS (.tmp 17) (.tmp 18) 1), none⟩, []⟩,
    ⟨3, ⟨(some 20), .op (.load 1 false (.tmp 19)), none⟩, []⟩,
    ⟨4, ⟨(some 21), .op (.mv (.tmp 1)), none⟩, []⟩,
    ⟨5, ⟨(some 22), .op (.mv (.tmp 5)), none⟩, []⟩,
    ⟨6, ⟨(some 23), .op (.iaddrS (.tmp 21) (.tmp 22) 1), none⟩, []⟩,
    ⟨7, ⟨(some 24), .op (.load 1 false (.tmp 23)), none⟩, []⟩,
    ⟨8, ⟨(some 25), .op (.bin .neq (.tmp 20) (.tmp 24)), none⟩, []⟩]
    [0, 0, 3, 7, 0, 0, 48, 112, 255]) (.kill [17, 18, 19, 20, 21, 22, 23, 24]))
  (.cond (.tmp 25) (.ghost (.kill [0, 1, 5, 25]) (.seq (.reg [⟨(some 4), .op (.mv (.const (Value.bool false))), none⟩])
  .ret))
  (.ghost (.kill [25]) .skip))))
  (.post (.reg [⟨(some 15), .op (.mv (.tmp 5)), none⟩,
    ⟨(some 16), .op (.bin .add (.tmp 15) (.const (Value.int .i64 1))), none⟩,
    ⟨(some 5), .op (.mv (.tmp 16)), none⟩]) (.kill [15, 16]))))
def lo_laws_eqInt64S_0 : AC := (.loop lb_laws_eqInt64S_0)
def ac_laws_eqInt64S : AC := (.seq (.post (.reg [⟨(some 4), .op (.mv (.const (Value.bool false))), none⟩]) (.kill [4]))
  (.seq (.seq (.post (.reg [⟨(some 6), .op (.mv (.tmp 0)), none⟩,
    ⟨(some 7), .op (.len false (.tmp 6)), none⟩,
    ⟨(some 8), .op (.mv (.tmp 1)), none⟩,
    ⟨(some 9), .op (.len false (.tmp 8)), none⟩,
    ⟨(some 10), .op (.bin .neq (.tmp 7) (.tmp 9)), none⟩]) (.kill [6, 7, 8, 9]))
  (.cond (.tmp 10) (.ghost (.kill [0, 1, 10]) (.seq (.reg [⟨(some 4), .op (.mv (.const (Value.bool false))), none⟩])
  .ret))
  (.ghost (.kill [10]) .skip)))
  (.seq (.seq (.reg [⟨(some 5), .op (.mv (.const (Value.int .i64 0))), none⟩])
  (.block 0 lo_laws_eqInt64S_0))
  (.ghost (.kill [0, 1, 5]) (.seq (.reg [⟨(some 4), .op (.mv (.const (Value.bool true))), none⟩])
  .ret)))))
theorem cf_laws_eqInt64S : chkFn Try.prog i_laws_eqInt64S ac_laws_eqInt64S [.tmp 4] 26 = true := by decide +kernel
def fa_laws_eqInt64S : FnA := ⟨ac_laws_eqInt64S, [.tmp 4], 26, false, true, [(.lst 1 .any), (.lst 1 .any)], .any, none⟩

/-- The checked code of laws eqInt64SS. -/
def lb_laws_eqInt64SS_0 : AC := (.seq (.seq (.post (.reg [⟨(some 11), .op (.mv (.tmp 5)), none⟩,
    ⟨(some 12), .op (.mv (.tmp 0)), none⟩,
    ⟨(some 13), .op (.len false (.tmp 12)), none⟩,
    ⟨(some 14), .op (.bin .lss (.tmp 11) (.tmp 13)), none⟩]) (.kill [11, 12, 13]))
  (.cond (.tmp 14) (.ghost (.kill [14]) .skip)
  (.ghost (.kill [0, 1, 5, 14]) (.exit 0))))
  (.seq (.block 1 (.seq (.post (.draw [⟨0, ⟨(some 17), .op (.mv (.tmp 0)), none⟩, []⟩,
    ⟨1, ⟨(some 18), .op (.mv (.tmp 5)), none⟩, []⟩,
    ⟨2, ⟨(some 19), .op (.iaddrS (.tmp 17) (.tmp 18) 1), none⟩, []⟩,
    ⟨3, ⟨(some 20), .op (.load 1 false (.tmp 19)), none⟩, []⟩,
    ⟨4, ⟨(some 21), .op (.mv (.tmp 1)), none⟩, []⟩,
    ⟨5, ⟨(some 22), .op (.mv (.tmp 5)), none⟩, []⟩,
    ⟨6, ⟨(some 23), .op (.iaddrS (.tmp 21) (.tmp 22) 1), none⟩, []⟩,
    ⟨7, ⟨(some 24), .op (.load 1 false (.tmp 23)), none⟩, []⟩,
    ⟨8, ⟨(some 25), .call (.func i_laws_eqInt64S) [(.tmp 20), (.tmp 24)], none⟩, []⟩,
    ⟨9, ⟨(some 26), .op (.un .not (.tmp 25)), none⟩, []⟩]
    [0, 0, 3, 7, 0, 0, 48, 112, 255, 511]) (.kill [17, 18, 19, 20, 21, 22, 23, 24, 25]))
  (.cond (.tmp 26) (.ghost (.kill [0, 1, 5, 26]) (.seq (.reg [⟨(some 4), .op (.mv (.const (Value.bool false))), none⟩])
  .ret))
  (.ghost (.kill [26]) .skip))))
  (.post (.reg [⟨(some 15), .op (.mv (.tmp 5)), none⟩,
    ⟨(some 16), .op (.bin .add (.tmp 15) (.const (Value.int .i64 1))), none⟩,
    ⟨(some 5), .op (.mv (.tmp 16)), none⟩]) (.kill [15, 16]))))
def lo_laws_eqInt64SS_0 : AC := (.loop lb_laws_eqInt64SS_0)
def ac_laws_eqInt64SS : AC := (.seq (.post (.reg [⟨(some 4), .op (.mv (.const (Value.bool false))), none⟩]) (.kill [4]))
  (.seq (.seq (.post (.reg [⟨(some 6), .op (.mv (.tmp 0)), none⟩,
    ⟨(some 7), .op (.len false (.tmp 6)), none⟩,
    ⟨(some 8), .op (.mv (.tmp 1)), none⟩,
    ⟨(some 9), .op (.len false (.tmp 8)), none⟩,
    ⟨(some 10), .op (.bin .neq (.tmp 7) (.tmp 9)), none⟩]) (.kill [6, 7, 8, 9]))
  (.cond (.tmp 10) (.ghost (.kill [0, 1, 10]) (.seq (.reg [⟨(some 4), .op (.mv (.const (Value.bool false))), none⟩])
  .ret))
  (.ghost (.kill [10]) .skip)))
  (.seq (.seq (.reg [⟨(some 5), .op (.mv (.const (Value.int .i64 0))), none⟩])
  (.block 0 lo_laws_eqInt64SS_0))
  (.ghost (.kill [0, 1, 5]) (.seq (.reg [⟨(some 4), .op (.mv (.const (Value.bool true))), none⟩])
  .ret)))))
theorem cf_laws_eqInt64SS : chkFn Try.prog i_laws_eqInt64SS ac_laws_eqInt64SS [.tmp 4] 27 = true := by decide +kernel
def fa_laws_eqInt64SS : FnA := ⟨ac_laws_eqInt64SS, [.tmp 4], 27, false, true, [(.lst 1 (.lst 1 .any)), (.lst 1 (.lst 1 .any))], .any, none⟩

/-- The checked code of laws eqInt64SSS. -/
def lb_laws_eqInt64SSS_0 : AC := (.seq (.seq (.post (.reg [⟨(some 11), .op (.mv (.tmp 5)), none⟩,
    ⟨(some 12), .op (.mv (.tmp 0)), none⟩,
    ⟨(some 13), .op (.len false (.tmp 12)), none⟩,
    ⟨(some 14), .op (.bin .lss (.tmp 11) (.tmp 13)), none⟩]) (.kill [11, 12, 13]))
  (.cond (.tmp 14) (.ghost (.kill [14]) .skip)
  (.ghost (.kill [0, 1, 5, 14]) (.exit 0))))
  (.seq (.block 1 (.seq (.post (.draw [⟨0, ⟨(some 17), .op (.mv (.tmp 0)), none⟩, []⟩,
    ⟨1, ⟨(some 18), .op (.mv (.tmp 5)), none⟩, []⟩,
    ⟨2, ⟨(some 19), .op (.iaddrS (.tmp 17) (.tmp 18) 1), none⟩, []⟩,
    ⟨3, ⟨(some 20), .op (.load 1 false (.tmp 19)), none⟩, []⟩,
    ⟨4, ⟨(some 21), .op (.mv (.tmp 1)), none⟩, []⟩,
    ⟨5, ⟨(some 22), .op (.mv (.tmp 5)), none⟩, []⟩,
    ⟨6, ⟨(some 23), .op (.iaddrS (.tmp 21) (.tmp 22) 1), none⟩, []⟩,
    ⟨7, ⟨(some 24), .op (.load 1 false (.tmp 23)), none⟩, []⟩,
    ⟨8, ⟨(some 25), .call (.func i_laws_eqInt64SS) [(.tmp 20), (.tmp 24)], none⟩, []⟩,
    ⟨9, ⟨(some 26), .op (.un .not (.tmp 25)), none⟩, []⟩]
    [0, 0, 3, 7, 0, 0, 48, 112, 255, 511]) (.kill [17, 18, 19, 20, 21, 22, 23, 24, 25]))
  (.cond (.tmp 26) (.ghost (.kill [0, 1, 5, 26]) (.seq (.reg [⟨(some 4), .op (.mv (.const (Value.bool false))), none⟩])
  .ret))
  (.ghost (.kill [26]) .skip))))
  (.post (.reg [⟨(some 15), .op (.mv (.tmp 5)), none⟩,
    ⟨(some 16), .op (.bin .add (.tmp 15) (.const (Value.int .i64 1))), none⟩,
    ⟨(some 5), .op (.mv (.tmp 16)), none⟩]) (.kill [15, 16]))))
def lo_laws_eqInt64SSS_0 : AC := (.loop lb_laws_eqInt64SSS_0)
def ac_laws_eqInt64SSS : AC := (.seq (.post (.reg [⟨(some 4), .op (.mv (.const (Value.bool false))), none⟩]) (.kill [4]))
  (.seq (.seq (.post (.reg [⟨(some 6), .op (.mv (.tmp 0)), none⟩,
    ⟨(some 7), .op (.len false (.tmp 6)), none⟩,
    ⟨(some 8), .op (.mv (.tmp 1)), none⟩,
    ⟨(some 9), .op (.len false (.tmp 8)), none⟩,
    ⟨(some 10), .op (.bin .neq (.tmp 7) (.tmp 9)), none⟩]) (.kill [6, 7, 8, 9]))
  (.cond (.tmp 10) (.ghost (.kill [0, 1, 10]) (.seq (.reg [⟨(some 4), .op (.mv (.const (Value.bool false))), none⟩])
  .ret))
  (.ghost (.kill [10]) .skip)))
  (.seq (.seq (.reg [⟨(some 5), .op (.mv (.const (Value.int .i64 0))), none⟩])
  (.block 0 lo_laws_eqInt64SSS_0))
  (.ghost (.kill [0, 1, 5]) (.seq (.reg [⟨(some 4), .op (.mv (.const (Value.bool true))), none⟩])
  .ret)))))
theorem cf_laws_eqInt64SSS : chkFn Try.prog i_laws_eqInt64SSS ac_laws_eqInt64SSS [.tmp 4] 27 = true := by decide +kernel
def fa_laws_eqInt64SSS : FnA := ⟨ac_laws_eqInt64SSS, [.tmp 4], 27, false, true, [], .any, none⟩

/-- The checked code of laws eqPush. -/
def ac_laws_eqPush : AC := (.seq (.post (.reg [⟨(some 2), .op (.box true (.tmp 0)), none⟩,
    ⟨(some 3), .op (.box true (.tmp 1)), none⟩,
    ⟨(some 4), .op (.mv (.const (Value.bool false))), none⟩]) (.kill [0, 1, 4]))
  (.seq (.seq (.post (.reg [⟨(some 5), .op (.faddr (.tmp 2) 0), none⟩,
    ⟨(some 6), .op (.load 1 false (.tmp 5)), none⟩,
    ⟨(some 7), .op (.faddr (.tmp 3) 0), none⟩,
    ⟨(some 8), .op (.load 1 false (.tmp 7)), none⟩,
    ⟨(some 9), .op (.bin .neq (.tmp 6) (.tmp 8)), none⟩]) (.kill [5, 6, 7, 8]))
  (.cond (.tmp 9) (.ghost (.kill [2, 3, 9]) (.seq (.reg [⟨(some 4), .op (.mv (.const (Value.bool false))), none⟩])
  .ret))
  (.ghost (.kill [9]) .skip)))
  (.seq (.seq (.post (.reg [⟨(some 10), .op (.faddr (.tmp 2) 1), none⟩,
    ⟨(some 11), .op (.load 1 false (.tmp 10)), none⟩,
    ⟨(some 12), .op (.faddr (.tmp 3) 1), none⟩,
    ⟨(some 13), .op (.load 1 false (.tmp 12)), none⟩,
    ⟨(some 14), .op (.bin .neq (.tmp 11) (.tmp 13)), none⟩]) (.kill [2, 3, 10, 11, 12, 13]))
  (.cond (.tmp 14) (.ghost (.kill [14]) (.seq (.reg [⟨(some 4), .op (.mv (.const (Value.bool false))), none⟩])
  .ret))
  (.ghost (.kill [14]) .skip)))
  (.seq (.reg [⟨(some 4), .op (.mv (.const (Value.bool true))), none⟩])
  .ret))))
theorem cf_laws_eqPush : chkFn Try.prog i_laws_eqPush ac_laws_eqPush [.tmp 4] 15 = true := by decide +kernel
def fa_laws_eqPush : FnA := ⟨ac_laws_eqPush, [.tmp 4], 15, false, true, [], .any, none⟩

/-- The checked code of laws eqPushS. -/
def lb_laws_eqPushS_0 : AC := (.seq (.seq (.post (.reg [⟨(some 11), .op (.mv (.tmp 5)), none⟩,
    ⟨(some 12), .op (.mv (.tmp 0)), none⟩,
    ⟨(some 13), .op (.len false (.tmp 12)), none⟩,
    ⟨(some 14), .op (.bin .lss (.tmp 11) (.tmp 13)), none⟩]) (.kill [11, 12, 13]))
  (.cond (.tmp 14) (.ghost (.kill [14]) .skip)
  (.ghost (.kill [0, 1, 5, 14]) (.exit 0))))
  (.seq (.block 1 (.seq (.post (.draw [⟨0, ⟨(some 17), .op (.mv (.tmp 0)), none⟩, []⟩,
    ⟨1, ⟨(some 18), .op (.mv (.tmp 5)), none⟩, []⟩,
    ⟨2, ⟨(some 19), .op (.iaddrS (.tmp 17) (.tmp 18) 2), none⟩, []⟩,
    ⟨3, ⟨(some 20), .op (.load 2 true (.tmp 19)), none⟩, []⟩,
    ⟨4, ⟨(some 21), .op (.mv (.tmp 1)), none⟩, []⟩,
    ⟨5, ⟨(some 22), .op (.mv (.tmp 5)), none⟩, []⟩,
    ⟨6, ⟨(some 23), .op (.iaddrS (.tmp 21) (.tmp 22) 2), none⟩, []⟩,
    ⟨7, ⟨(some 24), .op (.load 2 true (.tmp 23)), none⟩, []⟩,
    ⟨8, ⟨(some 25), .call (.func i_laws_eqPush) [(.tmp 20), (.tmp 24)], none⟩, []⟩,
    ⟨9, ⟨(some 26), .op (.un .not (.tmp 25)), none⟩, []⟩]
    [0, 0, 3, 7, 0, 0, 48, 112, 255, 511]) (.kill [17, 18, 19, 20, 21, 22, 23, 24, 25]))
  (.cond (.tmp 26) (.ghost (.kill [0, 1, 5, 26]) (.seq (.reg [⟨(some 4), .op (.mv (.const (Value.bool false))), none⟩])
  .ret))
  (.ghost (.kill [26]) .skip))))
  (.post (.reg [⟨(some 15), .op (.mv (.tmp 5)), none⟩,
    ⟨(some 16), .op (.bin .add (.tmp 15) (.const (Value.int .i64 1))), none⟩,
    ⟨(some 5), .op (.mv (.tmp 16)), none⟩]) (.kill [15, 16]))))
def lo_laws_eqPushS_0 : AC := (.loop lb_laws_eqPushS_0)
def ac_laws_eqPushS : AC := (.seq (.post (.reg [⟨(some 4), .op (.mv (.const (Value.bool false))), none⟩]) (.kill [4]))
  (.seq (.seq (.post (.reg [⟨(some 6), .op (.mv (.tmp 0)), none⟩,
    ⟨(some 7), .op (.len false (.tmp 6)), none⟩,
    ⟨(some 8), .op (.mv (.tmp 1)), none⟩,
    ⟨(some 9), .op (.len false (.tmp 8)), none⟩,
    ⟨(some 10), .op (.bin .neq (.tmp 7) (.tmp 9)), none⟩]) (.kill [6, 7, 8, 9]))
  (.cond (.tmp 10) (.ghost (.kill [0, 1, 10]) (.seq (.reg [⟨(some 4), .op (.mv (.const (Value.bool false))), none⟩])
  .ret))
  (.ghost (.kill [10]) .skip)))
  (.seq (.seq (.reg [⟨(some 5), .op (.mv (.const (Value.int .i64 0))), none⟩])
  (.block 0 lo_laws_eqPushS_0))
  (.ghost (.kill [0, 1, 5]) (.seq (.reg [⟨(some 4), .op (.mv (.const (Value.bool true))), none⟩])
  .ret)))))
theorem cf_laws_eqPushS : chkFn Try.prog i_laws_eqPushS ac_laws_eqPushS [.tmp 4] 27 = true := by decide +kernel
def fa_laws_eqPushS : FnA := ⟨ac_laws_eqPushS, [.tmp 4], 27, false, true, [], .any, none⟩

/-- The checked code of laws eqPushSS. -/
def lb_laws_eqPushSS_0 : AC := (.seq (.seq (.post (.reg [⟨(some 11), .op (.mv (.tmp 5)), none⟩,
    ⟨(some 12), .op (.mv (.tmp 0)), none⟩,
    ⟨(some 13), .op (.len false (.tmp 12)), none⟩,
    ⟨(some 14), .op (.bin .lss (.tmp 11) (.tmp 13)), none⟩]) (.kill [11, 12, 13]))
  (.cond (.tmp 14) (.ghost (.kill [14]) .skip)
  (.ghost (.kill [0, 1, 5, 14]) (.exit 0))))
  (.seq (.block 1 (.seq (.post (.draw [⟨0, ⟨(some 17), .op (.mv (.tmp 0)), none⟩, []⟩,
    ⟨1, ⟨(some 18), .op (.mv (.tmp 5)), none⟩, []⟩,
    ⟨2, ⟨(some 19), .op (.iaddrS (.tmp 17) (.tmp 18) 1), none⟩, []⟩,
    ⟨3, ⟨(some 20), .op (.load 1 false (.tmp 19)), none⟩, []⟩,
    ⟨4, ⟨(some 21), .op (.mv (.tmp 1)), none⟩, []⟩,
    ⟨5, ⟨(some 22), .op (.mv (.tmp 5)), none⟩, []⟩,
    ⟨6, ⟨(some 23), .op (.iaddrS (.tmp 21) (.tmp 22) 1), none⟩, []⟩,
    ⟨7, ⟨(some 24), .op (.load 1 false (.tmp 23)), none⟩, []⟩,
    ⟨8, ⟨(some 25), .call (.func i_laws_eqPushS) [(.tmp 20), (.tmp 24)], none⟩, []⟩,
    ⟨9, ⟨(some 26), .op (.un .not (.tmp 25)), none⟩, []⟩]
    [0, 0, 3, 7, 0, 0, 48, 112, 255, 511]) (.kill [17, 18, 19, 20, 21, 22, 23, 24, 25]))
  (.cond (.tmp 26) (.ghost (.kill [0, 1, 5, 26]) (.seq (.reg [⟨(some 4), .op (.mv (.const (Value.bool false))), none⟩])
  .ret))
  (.ghost (.kill [26]) .skip))))
  (.post (.reg [⟨(some 15), .op (.mv (.tmp 5)), none⟩,
    ⟨(some 16), .op (.bin .add (.tmp 15) (.const (Value.int .i64 1))), none⟩,
    ⟨(some 5), .op (.mv (.tmp 16)), none⟩]) (.kill [15, 16]))))
def lo_laws_eqPushSS_0 : AC := (.loop lb_laws_eqPushSS_0)
def ac_laws_eqPushSS : AC := (.seq (.post (.reg [⟨(some 4), .op (.mv (.const (Value.bool false))), none⟩]) (.kill [4]))
  (.seq (.seq (.post (.reg [⟨(some 6), .op (.mv (.tmp 0)), none⟩,
    ⟨(some 7), .op (.len false (.tmp 6)), none⟩,
    ⟨(some 8), .op (.mv (.tmp 1)), none⟩,
    ⟨(some 9), .op (.len false (.tmp 8)), none⟩,
    ⟨(some 10), .op (.bin .neq (.tmp 7) (.tmp 9)), none⟩]) (.kill [6, 7, 8, 9]))
  (.cond (.tmp 10) (.ghost (.kill [0, 1, 10]) (.seq (.reg [⟨(some 4), .op (.mv (.const (Value.bool false))), none⟩])
  .ret))
  (.ghost (.kill [10]) .skip)))
  (.seq (.seq (.reg [⟨(some 5), .op (.mv (.const (Value.int .i64 0))), none⟩])
  (.block 0 lo_laws_eqPushSS_0))
  (.ghost (.kill [0, 1, 5]) (.seq (.reg [⟨(some 4), .op (.mv (.const (Value.bool true))), none⟩])
  .ret)))))
theorem cf_laws_eqPushSS : chkFn Try.prog i_laws_eqPushSS ac_laws_eqPushSS [.tmp 4] 27 = true := by decide +kernel
def fa_laws_eqPushSS : FnA := ⟨ac_laws_eqPushSS, [.tmp 4], 27, false, true, [], .any, none⟩

/-- The checked code of laws eqChecker. -/
def ac_laws_eqChecker : AC := (.seq (.post (.reg [⟨(some 2), .op (.box true (.tmp 0)), none⟩,
    ⟨(some 3), .op (.box true (.tmp 1)), none⟩,
    ⟨(some 4), .op (.mv (.const (Value.bool false))), none⟩]) (.kill [0, 1, 4]))
  (.seq (.seq (.post (.reg [⟨(some 5), .op (.faddr (.tmp 2) 0), none⟩,
    ⟨(some 6), .op (.load 1 false (.tmp 5)), none⟩,
    ⟨(some 7), .op (.faddr (.tmp 3) 0), none⟩,
    ⟨(some 8), .op (.load 1 false (.tmp 7)), none⟩,
    ⟨(some 9), .op (.bin .neq (.tmp 6) (.tmp 8)), none⟩]) (.kill [5, 6, 7, 8]))
  (.cond (.tmp 9) (.ghost (.kill [2, 3, 9]) (.seq (.reg [⟨(some 4), .op (.mv (.const (Value.bool false))), none⟩])
  .ret))
  (.ghost (.kill [9]) .skip)))
  (.seq (.seq (.post (.reg [⟨(some 10), .op (.faddr (.tmp 2) 1), none⟩,
    ⟨(some 11), .op (.load 1 false (.tmp 10)), none⟩,
    ⟨(some 12), .op (.faddr (.tmp 3) 1), none⟩,
    ⟨(some 13), .op (.load 1 false (.tmp 12)), none⟩,
    ⟨(some 14), .op (.bin .neq (.tmp 11) (.tmp 13)), none⟩]) (.kill [10, 11, 12, 13]))
  (.cond (.tmp 14) (.ghost (.kill [2, 3, 14]) (.seq (.reg [⟨(some 4), .op (.mv (.const (Value.bool false))), none⟩])
  .ret))
  (.ghost (.kill [14]) .skip)))
  (.seq (.seq (.post (.reg [⟨(some 15), .op (.faddr (.tmp 2) 2), none⟩,
    ⟨(some 16), .op (.load 1 false (.tmp 15)), none⟩,
    ⟨(some 17), .op (.faddr (.tmp 3) 2), none⟩,
    ⟨(some 18), .op (.load 1 false (.tmp 17)), none⟩,
    ⟨(some 19), .call (.func i_laws_eqBoolS) [(.tmp 16), (.tmp 18)], none⟩,
    ⟨(some 20), .op (.un .not (.tmp 19)), none⟩]) (.kill [15, 16, 17, 18, 19]))
  (.cond (.tmp 20) (.ghost (.kill [2, 3, 20]) (.seq (.reg [⟨(some 4), .op (.mv (.const (Value.bool false))), none⟩])
  .ret))
  (.ghost (.kill [20]) .skip)))
  (.seq (.seq (.post (.reg [⟨(some 21), .op (.faddr (.tmp 2) 3), none⟩,
    ⟨(some 22), .op (.load 1 false (.tmp 21)), none⟩,
    ⟨(some 23), .op (.faddr (.tmp 3) 3), none⟩,
    ⟨(some 24), .op (.load 1 false (.tmp 23)), none⟩,
    ⟨(some 25), .call (.func i_laws_eqPushSS) [(.tmp 22), (.tmp 24)], none⟩,
    ⟨(some 26), .op (.un .not (.tmp 25)), none⟩]) (.kill [21, 22, 23, 24, 25]))
  (.cond (.tmp 26) (.ghost (.kill [2, 3, 26]) (.seq (.reg [⟨(some 4), .op (.mv (.const (Value.bool false))), none⟩])
  .ret))
  (.ghost (.kill [26]) .skip)))
  (.seq (.seq (.post (.reg [⟨(some 27), .op (.faddr (.tmp 2) 4), none⟩,
    ⟨(some 28), .op (.load 1 false (.tmp 27)), none⟩,
    ⟨(some 29), .op (.faddr (.tmp 3) 4), none⟩,
    ⟨(some 30), .op (.load 1 false (.tmp 29)), none⟩,
    ⟨(some 31), .call (.func i_laws_eqInt64SSS) [(.tmp 28), (.tmp 30)], none⟩,
    ⟨(some 32), .op (.un .not (.tmp 31)), none⟩]) (.kill [27, 28, 29, 30, 31]))
  (.cond (.tmp 32) (.ghost (.kill [2, 3, 32]) (.seq (.reg [⟨(some 4), .op (.mv (.const (Value.bool false))), none⟩])
  .ret))
  (.ghost (.kill [32]) .skip)))
  (.seq (.seq (.post (.reg [⟨(some 33), .op (.faddr (.tmp 2) 5), none⟩,
    ⟨(some 34), .op (.load 1 false (.tmp 33)), none⟩,
    ⟨(some 35), .op (.faddr (.tmp 3) 5), none⟩,
    ⟨(some 36), .op (.load 1 false (.tmp 35)), none⟩,
    ⟨(some 37), .call (.func i_laws_eqInt64SS) [(.tmp 34), (.tmp 36)], none⟩,
    ⟨(some 38), .op (.un .not (.tmp 37)), none⟩]) (.kill [2, 3, 33, 34, 35, 36, 37]))
  (.cond (.tmp 38) (.ghost (.kill [38]) (.seq (.reg [⟨(some 4), .op (.mv (.const (Value.bool false))), none⟩])
  .ret))
  (.ghost (.kill [38]) .skip)))
  (.seq (.reg [⟨(some 4), .op (.mv (.const (Value.bool true))), none⟩])
  .ret))))))))
theorem cf_laws_eqChecker : chkFn Try.prog i_laws_eqChecker ac_laws_eqChecker [.tmp 4] 39 = true := by decide +kernel
def fa_laws_eqChecker : FnA := ⟨ac_laws_eqChecker, [.tmp 4], 39, false, true, [(.agg [.any, .any, (.lst 1 .any), (.lst 1 (.lst 2 .any)), (.lst 1 (.lst 1 (.lst 1 .any))), (.lst 1 (.lst 1 .any))]), (.agg [.any, .any, (.lst 1 .any), (.lst 1 (.lst 2 .any)), (.lst 1 (.lst 1 (.lst 1 .any))), (.lst 1 (.lst 1 .any))])], .any, none⟩

/-- The checked code of laws markBoolS. -/
def lb_laws_markBoolS_0 : AC := (.seq (.seq (.post (.reg [⟨(some 6), .op (.mv (.tmp 5)), none⟩,
    ⟨(some 7), .op (.mv (.tmp 0)), none⟩,
    ⟨(some 8), .op (.len false (.tmp 7)), none⟩,
    ⟨(some 9), .op (.bin .lss (.tmp 6) (.tmp 8)), none⟩]) (.kill [6, 7, 8]))
  (.cond (.tmp 9) (.ghost (.kill [9]) .skip)
  (.ghost (.kill [0, 5, 9]) (.exit 0))))
  (.seq (.block 1 (.seq (.post (.reg [⟨(some 12), .op (.mv (.tmp 0)), none⟩,
    ⟨(some 13), .op (.mv (.tmp 5)), none⟩,
    ⟨(some 14), .op (.mv (.tmp 1)), none⟩,
    ⟨(some 15), .op (.bin .rem (.tmp 14) (.const (Value.int .i64 3))), none⟩,
    ⟨(some 16), .op (.bin .eql (.tmp 15) (.const (Value.int .i64 0))), none⟩,
    ⟨(some 17), .op (.iaddrS (.tmp 12) (.tmp 13) 1), none⟩,
    ⟨none, .op (.store 1 (.tmp 17) (.tmp 16)), none⟩]) (.kill [12, 13, 14, 15, 16, 17]))
  (.post (.reg [⟨(some 18), .op (.mv (.tmp 1)), none⟩,
    ⟨(some 19), .op (.bin .add (.tmp 18) (.const (Value.int .i64 1))), none⟩,
    ⟨(some 1), .op (.mv (.tmp 19)), none⟩]) (.kill [18, 19]))))
  (.post (.reg [⟨(some 10), .op (.mv (.tmp 5)), none⟩,
    ⟨(some 11), .op (.bin .add (.tmp 10) (.const (Value.int .i64 1))), none⟩,
    ⟨(some 5), .op (.mv (.tmp 11)), none⟩]) (.kill [10, 11]))))
def lo_laws_markBoolS_0 : AC := (.loop lb_laws_markBoolS_0)
def ac_laws_markBoolS : AC := (.seq (.post (.reg [⟨(some 4), .op (.mv (.const (Value.int .i64 0))), none⟩]) (.kill [4]))
  (.seq (.seq (.reg [⟨(some 5), .op (.mv (.const (Value.int .i64 0))), none⟩])
  (.block 0 lo_laws_markBoolS_0))
  (.ghost (.kill [0, 5]) (.seq (.post (.reg [⟨(some 20), .op (.mv (.tmp 1)), none⟩,
    ⟨(some 4), .op (.mv (.tmp 20)), none⟩]) (.kill [1, 20]))
  .ret))))
theorem cf_laws_markBoolS : chkFn Try.prog i_laws_markBoolS ac_laws_markBoolS [.tmp 4] 21 = true := by decide +kernel
def fa_laws_markBoolS : FnA := ⟨ac_laws_markBoolS, [.tmp 4], 21, true, false, [], .any, none⟩

/-- The checked code of laws markPushS. -/
def lb_laws_markPushS_0 : AC := (.seq (.seq (.post (.reg [⟨(some 6), .op (.mv (.tmp 5)), none⟩,
    ⟨(some 7), .op (.mv (.tmp 0)), none⟩,
    ⟨(some 8), .op (.len false (.tmp 7)), none⟩,
    ⟨(some 9), .op (.bin .lss (.tmp 6) (.tmp 8)), none⟩]) (.kill [6, 7, 8]))
  (.cond (.tmp 9) (.ghost (.kill [9]) .skip)
  (.ghost (.kill [0, 5, 9]) (.exit 0))))
  (.seq (.block 1 (.seq (.post (.reg [⟨(some 12), .op (.mv (.tmp 0)), none⟩,
    ⟨(some 13), .op (.mv (.tmp 5)), none⟩,
    ⟨(some 14), .op (.mv (.tmp 1)), none⟩,
    ⟨(some 15), .op (.iaddrS (.tmp 12) (.tmp 13) 2), none⟩,
    ⟨(some 16), .op (.faddr (.tmp 15) 0), none⟩,
    ⟨none, .op (.store 1 (.tmp 16) (.tmp 14)), none⟩]) (.kill [12, 13, 14, 15, 16]))
  (.seq (.post (.reg [⟨(some 17), .op (.mv (.tmp 1)), none⟩,
    ⟨(some 18), .op (.bin .add (.tmp 17) (.const (Value.int .i64 1))), none⟩,
    ⟨(some 1), .op (.mv (.tmp 18)), none⟩]) (.kill [17, 18]))
  (.seq (.post (.reg [⟨(some 19), .op (.mv (.tmp 0)), none⟩,
    ⟨(some 20), .op (.mv (.tmp 5)), none⟩,
    ⟨(some 21), .op (.mv (.tmp 1)), none⟩,
    ⟨(some 22), .op (.iaddrS (.tmp 19) (.tmp 20) 2), none⟩,
    ⟨(some 23), .op (.faddr (.tmp 22) 1), none⟩,
    ⟨none, .op (.store 1 (.tmp 23) (.tmp 21)), none⟩]) (.kill [19, 20, 21, 22, 23]))
  (.post (.reg [⟨(some 24), .op (.mv (.tmp 1)), none⟩,
    ⟨(some 25), .op (.bin .add (.tmp 24) (.const (Value.int .i64 1))), none⟩,
    ⟨(some 1), .op (.mv (.tmp 25)), none⟩]) (.kill [24, 25]))))))
  (.post (.reg [⟨(some 10), .op (.mv (.tmp 5)), none⟩,
    ⟨(some 11), .op (.bin .add (.tmp 10) (.const (Value.int .i64 1))), none⟩,
    ⟨(some 5), .op (.mv (.tmp 11)), none⟩]) (.kill [10, 11]))))
def lo_laws_markPushS_0 : AC := (.loop lb_laws_markPushS_0)
def ac_laws_markPushS : AC := (.seq (.post (.reg [⟨(some 4), .op (.mv (.const (Value.int .i64 0))), none⟩]) (.kill [4]))
  (.seq (.seq (.reg [⟨(some 5), .op (.mv (.const (Value.int .i64 0))), none⟩])
  (.block 0 lo_laws_markPushS_0))
  (.ghost (.kill [0, 5]) (.seq (.post (.reg [⟨(some 26), .op (.mv (.tmp 1)), none⟩,
    ⟨(some 4), .op (.mv (.tmp 26)), none⟩]) (.kill [1, 26]))
  .ret))))
theorem cf_laws_markPushS : chkFn Try.prog i_laws_markPushS ac_laws_markPushS [.tmp 4] 27 = true := by decide +kernel
def fa_laws_markPushS : FnA := ⟨ac_laws_markPushS, [.tmp 4], 27, true, false, [], .any, none⟩

/-- The checked code of laws markPushSS. -/
def lb_laws_markPushSS_0 : AC := (.seq (.seq (.post (.reg [⟨(some 6), .op (.mv (.tmp 5)), none⟩,
    ⟨(some 7), .op (.mv (.tmp 0)), none⟩,
    ⟨(some 8), .op (.len false (.tmp 7)), none⟩,
    ⟨(some 9), .op (.bin .lss (.tmp 6) (.tmp 8)), none⟩]) (.kill [6, 7, 8]))
  (.cond (.tmp 9) (.ghost (.kill [9]) .skip)
  (.ghost (.kill [0, 5, 9]) (.exit 0))))
  (.seq (.block 1 (.post (.reg [⟨(some 12), .op (.mv (.tmp 0)), none⟩,
    ⟨(some 13), .op (.mv (.tmp 5)), none⟩,
    ⟨(some 14), .op (.iaddrS (.tmp 12) (.tmp 13) 1), none⟩,
    ⟨(some 15), .op (.load 1 false (.tmp 14)), none⟩,
    ⟨(some 16), .op (.mv (.tmp 1)), none⟩,
    ⟨(some 17), .call (.func i_laws_markPushS) [(.tmp 15), (.tmp 16)], none⟩,
    ⟨(some 1), .op (.mv (.tmp 17)), none⟩]) (.kill [12, 13, 14, 15, 16, 17])))
  (.post (.reg [⟨(some 10), .op (.mv (.tmp 5)), none⟩,
    ⟨(some 11), .op (.bin .add (.tmp 10) (.const (Value.int .i64 1))), none⟩,
    ⟨(some 5), .op (.mv (.tmp 11)), none⟩]) (.kill [10, 11]))))
def lo_laws_markPushSS_0 : AC := (.loop lb_laws_markPushSS_0)
def ac_laws_markPushSS : AC := (.seq (.post (.reg [⟨(some 4), .op (.mv (.const (Value.int .i64 0))), none⟩]) (.kill [4]))
  (.seq (.seq (.reg [⟨(some 5), .op (.mv (.const (Value.int .i64 0))), none⟩])
  (.block 0 lo_laws_markPushSS_0))
  (.ghost (.kill [0, 5]) (.seq (.post (.reg [⟨(some 18), .op (.mv (.tmp 1)), none⟩,
    ⟨(some 4), .op (.mv (.tmp 18)), none⟩]) (.kill [1, 18]))
  .ret))))
theorem cf_laws_markPushSS : chkFn Try.prog i_laws_markPushSS ac_laws_markPushSS [.tmp 4] 19 = true := by decide +kernel
def fa_laws_markPushSS : FnA := ⟨ac_laws_markPushSS, [.tmp 4], 19, true, false, [], .any, none⟩

/-- The checked code of laws markInt64S. -/
def lb_laws_markInt64S_0 : AC := (.seq (.seq (.post (.reg [⟨(some 6), .op (.mv (.tmp 5)), none⟩,
    ⟨(some 7), .op (.mv (.tmp 0)), none⟩,
    ⟨(some 8), .op (.len false (.tmp 7)), none⟩,
    ⟨(some 9), .op (.bin .lss (.tmp 6) (.tmp 8)), none⟩]) (.kill [6, 7, 8]))
  (.cond (.tmp 9) (.ghost (.kill [9]) .skip)
  (.ghost (.kill [0, 5, 9]) (.exit 0))))
  (.seq (.block 1 (.seq (.post (.reg [⟨(some 12), .op (.mv (.tmp 0)), none⟩,
    ⟨(some 13), .op (.mv (.tmp 5)), none⟩,
    ⟨(some 14), .op (.mv (.tmp 1)), none⟩,
    ⟨(some 15), .op (.iaddrS (.tmp 12) (.tmp 13) 1), none⟩,
    ⟨none, .op (.store 1 (.tmp 15) (.tmp 14)), none⟩]) (.kill [12, 13, 14, 15]))
  (.post (.reg [⟨(some 16), .op (.mv (.tmp 1)), none⟩,
    ⟨(some 17), .op (.bin .add (.tmp 16) (.const (Value.int .i64 1))), none⟩,
    ⟨(some 1), .op (.mv (.tmp 17)), none⟩]) (.kill [16, 17]))))
  (.post (.reg [⟨(some 10), .op (.mv (.tmp 5)), none⟩,
    ⟨(some 11), .op (.bin .add (.tmp 10) (.const (Value.int .i64 1))), none⟩,
    ⟨(some 5), .op (.mv (.tmp 11)), none⟩]) (.kill [10, 11]))))
def lo_laws_markInt64S_0 : AC := (.loop lb_laws_markInt64S_0)
def ac_laws_markInt64S : AC := (.seq (.post (.reg [⟨(some 4), .op (.mv (.const (Value.int .i64 0))), none⟩]) (.kill [4]))
  (.seq (.seq (.reg [⟨(some 5), .op (.mv (.const (Value.int .i64 0))), none⟩])
  (.block 0 lo_laws_markInt64S_0))
  (.ghost (.kill [0, 5]) (.seq (.post (.reg [⟨(some 18), .op (.mv (.tmp 1)), none⟩,
    ⟨(some 4), .op (.mv (.tmp 18)), none⟩]) (.kill [1, 18]))
  .ret))))
theorem cf_laws_markInt64S : chkFn Try.prog i_laws_markInt64S ac_laws_markInt64S [.tmp 4] 19 = true := by decide +kernel
def fa_laws_markInt64S : FnA := ⟨ac_laws_markInt64S, [.tmp 4], 19, true, false, [], .any, none⟩

/-- The checked code of laws markInt64SS. -/
def lb_laws_markInt64SS_0 : AC := (.seq (.seq (.post (.reg [⟨(some 6), .op (.mv (.tmp 5)), none⟩,
    ⟨(some 7), .op (.mv (.tmp 0)), none⟩,
    ⟨(some 8), .op (.len false (.tmp 7)), none⟩,
    ⟨(some 9), .op (.bin .lss (.tmp 6) (.tmp 8)), none⟩]) (.kill [6, 7, 8]))
  (.cond (.tmp 9) (.ghost (.kill [9]) .skip)
  (.ghost (.kill [0, 5, 9]) (.exit 0))))
  (.seq (.block 1 (.post (.reg [⟨(some 12), .op (.mv (.tmp 0)), none⟩,
    ⟨(some 13), .op (.mv (.tmp 5)), none⟩,
    ⟨(some 14), .op (.iaddrS (.tmp 12) (.tmp 13) 1), none⟩,
    ⟨(some 15), .op (.load 1 false (.tmp 14)), none⟩,
    ⟨(some 16), .op (.mv (.tmp 1)), none⟩,
    ⟨(some 17), .call (.func i_laws_markInt64S) [(.tmp 15), (.tmp 16)], none⟩,
    ⟨(some 1), .op (.mv (.tmp 17)), none⟩]) (.kill [12, 13, 14, 15, 16, 17])))
  (.post (.reg [⟨(some 10), .op (.mv (.tmp 5)), none⟩,
    ⟨(some 11), .op (.bin .add (.tmp 10) (.const (Value.int .i64 1))), none⟩,
    ⟨(some 5), .op (.mv (.tmp 11)), none⟩]) (.kill [10, 11]))))
def lo_laws_markInt64SS_0 : AC := (.loop lb_laws_markInt64SS_0)
def ac_laws_markInt64SS : AC := (.seq (.post (.reg [⟨(some 4), .op (.mv (.const (Value.int .i64 0))), none⟩]) (.kill [4]))
  (.seq (.seq (.reg [⟨(some 5), .op (.mv (.const (Value.int .i64 0))), none⟩])
  (.block 0 lo_laws_markInt64SS_0))
  (.ghost (.kill [0, 5]) (.seq (.post (.reg [⟨(some 18), .op (.mv (.tmp 1)), none⟩,
    ⟨(some 4), .op (.mv (.tmp 18)), none⟩]) (.kill [1, 18]))
  .ret))))
theorem cf_laws_markInt64SS : chkFn Try.prog i_laws_markInt64SS ac_laws_markInt64SS [.tmp 4] 19 = true := by decide +kernel
def fa_laws_markInt64SS : FnA := ⟨ac_laws_markInt64SS, [.tmp 4], 19, true, false, [], .any, none⟩

/-- The checked code of laws markInt64SSS. -/
def lb_laws_markInt64SSS_0 : AC := (.seq (.seq (.post (.reg [⟨(some 6), .op (.mv (.tmp 5)), none⟩,
    ⟨(some 7), .op (.mv (.tmp 0)), none⟩,
    ⟨(some 8), .op (.len false (.tmp 7)), none⟩,
    ⟨(some 9), .op (.bin .lss (.tmp 6) (.tmp 8)), none⟩]) (.kill [6, 7, 8]))
  (.cond (.tmp 9) (.ghost (.kill [9]) .skip)
  (.ghost (.kill [0, 5, 9]) (.exit 0))))
  (.seq (.block 1 (.post (.reg [⟨(some 12), .op (.mv (.tmp 0)), none⟩,
    ⟨(some 13), .op (.mv (.tmp 5)), none⟩,
    ⟨(some 14), .op (.iaddrS (.tmp 12) (.tmp 13) 1), none⟩,
    ⟨(some 15), .op (.load 1 false (.tmp 14)), none⟩,
    ⟨(some 16), .op (.mv (.tmp 1)), none⟩,
    ⟨(some 17), .call (.func i_laws_markInt64SS) [(.tmp 15), (.tmp 16)], none⟩,
    ⟨(some 1), .op (.mv (.tmp 17)), none⟩]) (.kill [12, 13, 14, 15, 16, 17])))
  (.post (.reg [⟨(some 10), .op (.mv (.tmp 5)), none⟩,
    ⟨(some 11), .op (.bin .add (.tmp 10) (.const (Value.int .i64 1))), none⟩,
    ⟨(some 5), .op (.mv (.tmp 11)), none⟩]) (.kill [10, 11]))))
def lo_laws_markInt64SSS_0 : AC := (.loop lb_laws_markInt64SSS_0)
def ac_laws_markInt64SSS : AC := (.seq (.post (.reg [⟨(some 4), .op (.mv (.const (Value.int .i64 0))), none⟩]) (.kill [4]))
  (.seq (.seq (.reg [⟨(some 5), .op (.mv (.const (Value.int .i64 0))), none⟩])
  (.block 0 lo_laws_markInt64SSS_0))
  (.ghost (.kill [0, 5]) (.seq (.post (.reg [⟨(some 18), .op (.mv (.tmp 1)), none⟩,
    ⟨(some 4), .op (.mv (.tmp 18)), none⟩]) (.kill [1, 18]))
  .ret))))
theorem cf_laws_markInt64SSS : chkFn Try.prog i_laws_markInt64SSS ac_laws_markInt64SSS [.tmp 4] 19 = true := by decide +kernel
def fa_laws_markInt64SSS : FnA := ⟨ac_laws_markInt64SSS, [.tmp 4], 19, true, false, [], .any, none⟩

/-- The checked code of laws markChecker. -/
def ac_laws_markChecker : AC := (.seq (.post (.reg [⟨(some 2), .op (.box false (.tmp 0)), none⟩,
    ⟨(some 4), .op (.mv (.const (Value.int .i64 0))), none⟩]) (.kill [0, 4]))
  (.seq (.post (.reg [⟨(some 5), .op (.faddr (.tmp 2) 2), none⟩,
    ⟨(some 6), .op (.load 1 false (.tmp 5)), none⟩,
    ⟨(some 7), .op (.mv (.tmp 1)), none⟩,
    ⟨(some 8), .call (.func i_laws_markBoolS) [(.tmp 6), (.tmp 7)], none⟩,
    ⟨(some 1), .op (.mv (.tmp 8)), none⟩]) (.kill [5, 6, 7, 8]))
  (.seq (.post (.reg [⟨(some 9), .op (.faddr (.tmp 2) 3), none⟩,
    ⟨(some 10), .op (.load 1 false (.tmp 9)), none⟩,
    ⟨(some 11), .op (.mv (.tmp 1)), none⟩,
    ⟨(some 12), .call (.func i_laws_markPushSS) [(.tmp 10), (.tmp 11)], none⟩,
    ⟨(some 1), .op (.mv (.tmp 12)), none⟩]) (.kill [9, 10, 11, 12]))
  (.seq (.post (.reg [⟨(some 13), .op (.faddr (.tmp 2) 4), none⟩,
    ⟨(some 14), .op (.load 1 false (.tmp 13)), none⟩,
    ⟨(some 15), .op (.mv (.tmp 1)), none⟩,
    ⟨(some 16), .call (.func i_laws_markInt64SSS) [(.tmp 14), (.tmp 15)], none⟩,
    ⟨(some 1), .op (.mv (.tmp 16)), none⟩]) (.kill [13, 14, 15, 16]))
  (.seq (.post (.reg [⟨(some 17), .op (.faddr (.tmp 2) 5), none⟩,
    ⟨(some 18), .op (.load 1 false (.tmp 17)), none⟩,
    ⟨(some 19), .op (.mv (.tmp 1)), none⟩,
    ⟨(some 20), .call (.func i_laws_markInt64SS) [(.tmp 18), (.tmp 19)], none⟩,
    ⟨(some 1), .op (.mv (.tmp 20)), none⟩]) (.kill [2, 17, 18, 19, 20]))
  (.seq (.post (.reg [⟨(some 21), .op (.mv (.tmp 1)), none⟩,
    ⟨(some 4), .op (.mv (.tmp 21)), none⟩]) (.kill [1, 21]))
  .ret))))))
theorem cf_laws_markChecker : chkFn Try.prog i_laws_markChecker ac_laws_markChecker [.tmp 4] 22 = true := by decide +kernel
def fa_laws_markChecker : FnA := ⟨ac_laws_markChecker, [.tmp 4], 22, true, false, [], .any, none⟩

/-- The checked code of spec l00In. -/
def ac_spec_l00In : AC := (.seq (.post (.reg [⟨(some 6), .op (.mv (.const (Value.bool false))), none⟩]) (.kill [6]))
  (.seq (.post (.reg [⟨(some 7), .op (.mv (.tmp 0)), none⟩,
    ⟨(some 8), .op (.mv (.tmp 1)), none⟩,
    ⟨(some 9), .op (.bin .geq (.tmp 7) (.tmp 8)), none⟩,
    ⟨(some 10), .op (.mv (.tmp 9)), none⟩,
    ⟨(some 11), .op (.mv (.tmp 0)), some (10, true)⟩,
    ⟨(some 12), .op (.mv (.tmp 2)), some (10, true)⟩,
    ⟨(some 13), .op (.bin .leq (.tmp 11) (.tmp 12)), some (10, true)⟩,
    ⟨(some 14), .op (.pick (.tmp 10) (.tmp 13) (.const (Value.bool false))), none⟩,
    ⟨(some 6), .op (.mv (.tmp 14)), none⟩]) (.kill [0, 1, 2, 7, 8, 9, 10, 11, 12, 13, 14]))
  .ret))
theorem cf_spec_l00In : chkFn Try.prog i_spec_l00In ac_spec_l00In [.tmp 6] 15 = true := by decide +kernel
def fa_spec_l00In : FnA := ⟨ac_spec_l00In, [.tmp 6], 15, false, true, [], .any, none⟩

/-- The checked code of spec l02List. -/
def lb_spec_l02List_0 : AC := (.seq (.seq (.post (.reg [⟨(some 12), .op (.mv (.tmp 7)), none⟩,
    ⟨(some 13), .op (.mv (.tmp 0)), none⟩,
    ⟨(some 14), .op (.len false (.tmp 13)), none⟩,
    ⟨(some 15), .op (.bin .lss (.tmp 12) (.tmp 14)), none⟩]) (.kill [12, 13, 14]))
  (.cond (.tmp 15) (.ghost (.kill [15]) .skip)
  (.ghost (.kill [0, 2, 7, 15]) (.exit 0))))
  (.seq (.block 1 (.seq (.post (.reg [⟨(some 18), .op (.mv (.tmp 0)), none⟩,
    ⟨(some 19), .op (.mv (.tmp 7)), none⟩,
    ⟨(some 20), .op (.iaddrS (.tmp 18) (.tmp 19) 1), none⟩,
    ⟨(some 21), .op (.load 1 false (.tmp 20)), none⟩,
    ⟨(some 22), .op (.mv (.tmp 2)), none⟩,
    ⟨(some 23), .op (.bin .sub (.tmp 22) (.const (Value.int .i64 1))), none⟩,
    ⟨(some 24), .call (.func i_spec_l00In) [(.tmp 21), (.const (Value.int .i64 0)), (.tmp 23)], none⟩,
    ⟨(some 25), .op (.un .not (.tmp 24)), none⟩]) (.kill [18, 19, 20, 21, 22, 23, 24]))
  (.cond (.tmp 25) (.ghost (.kill [0, 2, 7, 25]) (.seq (.reg [⟨(some 6), .op (.mv (.const (Value.bool false))), none⟩])
  .ret))
  (.ghost (.kill [25]) .skip))))
  (.post (.reg [⟨(some 16), .op (.mv (.tmp 7)), none⟩,
    ⟨(some 17), .op (.bin .add (.tmp 16) (.const (Value.int .i64 1))), none⟩,
    ⟨(some 7), .op (.mv (.tmp 17)), none⟩]) (.kill [16, 17]))))
def lo_spec_l02List_0 : AC := (.loop lb_spec_l02List_0)
def ac_spec_l02List : AC := (.seq (.post (.reg [⟨(some 6), .op (.mv (.const (Value.bool false))), none⟩]) (.kill [6]))
  (.seq (.seq (.post (.reg [⟨(some 8), .op (.mv (.tmp 0)), none⟩,
    ⟨(some 9), .op (.len false (.tmp 8)), none⟩,
    ⟨(some 10), .op (.mv (.tmp 1)), none⟩,
    ⟨(some 11), .op (.bin .neq (.tmp 9) (.tmp 10)), none⟩]) (.kill [1, 8, 9, 10]))
  (.cond (.tmp 11) (.ghost (.kill [0, 2, 11]) (.seq (.reg [⟨(some 6), .op (.mv (.const (Value.bool false))), none⟩])
  .ret))
  (.ghost (.kill [11]) .skip)))
  (.seq (.seq (.reg [⟨(some 7), .op (.mv (.const (Value.int .i64 0))), none⟩])
  (.block 0 lo_spec_l02List_0))
  (.ghost (.kill [0, 2, 7]) (.seq (.reg [⟨(some 6), .op (.mv (.const (Value.bool true))), none⟩])
  .ret)))))
theorem cf_spec_l02List : chkFn Try.prog i_spec_l02List ac_spec_l02List [.tmp 6] 26 = true := by decide +kernel
def fa_spec_l02List : FnA := ⟨ac_spec_l02List, [.tmp 6], 26, false, true, [], .any, none⟩

/-- The checked code of spec l02Ok. -/
def lb_spec_l02Ok_0 : AC := (.seq (.seq (.post (.reg [⟨(some 96), .op (.mv (.tmp 5)), none⟩,
    ⟨(some 97), .op (.bin .lss (.tmp 96) (.const (Value.int .i64 2))), none⟩]) (.kill [96]))
  (.cond (.tmp 97) (.ghost (.kill [97]) .skip)
  (.ghost (.kill [5, 97]) (.exit 2))))
  (.seq (.block 3 (.seq (.post (.draw [⟨0, ⟨(some 100), .op (.mv (.tmp 0)), none⟩, []⟩,
    ⟨1, ⟨(some 101), .op (.nilc (.tmp 100)), none⟩, []⟩,
    ⟨2, ⟨(some 102), .op (.faddr (.tmp 101) 3), none⟩, []⟩,
    ⟨3, ⟨(some 103), .op (.load 1 false (.tmp 102)), none⟩, []⟩,
    ⟨4, ⟨(some 104), .op (.mv (.tmp 4)), none⟩, []⟩,
    ⟨5, ⟨(some 105), .op (.iaddrS (.tmp 103) (.tmp 104) 1), none⟩, []⟩,
    ⟨6, ⟨(some 106), .op (.load 1 false (.tmp 105)), none⟩, []⟩,
    ⟨7, ⟨(some 107), .op (.mv (.tmp 5)), none⟩, []⟩,
    ⟨8, ⟨(some 108), .op (.iaddrS (.tmp 106) (.tmp 107) 2), none⟩, []⟩,
    ⟨9, ⟨(some 109), .op (.faddr (.tmp 108) 0), none⟩, []⟩,
    ⟨10, ⟨(some 110), .op (.load 1 false (.tmp 109)), none⟩, []⟩,
    ⟨11, ⟨(some 111), .op (.mv (.tmp 3)), none⟩, []⟩,
    ⟨12, ⟨(some 112), .op (.bin .sub (.tmp 111) (.const (Value.int .i64 1))), none⟩, []⟩,
    ⟨13, ⟨(some 113), .call (.func i_spec_l00In) [(.tmp 110), (.const (Value.int .i64 0)), (.tmp 112)], none⟩, []⟩,
    ⟨14, ⟨(some 114), .op (.un .not (.tmp 113)), none⟩, []⟩,
    ⟨15, ⟨(some 115), .op (.mv (.tmp 114)), none⟩, []⟩,
    ⟨16, ⟨(some 116), .op (.mv (.tmp 0)), some (115, false)⟩, []⟩,
    ⟨17, ⟨(some 117), .op (.nilc (.tmp 116)), some (115, false)⟩, []⟩,
    ⟨18, ⟨(some 118), .op (.faddr (.tmp 117) 3), some (115, false)⟩, []⟩,
    ⟨19, ⟨(some 119), .op (.load 1 false (.tmp 118)), some (115, false)⟩, []⟩,
    ⟨20, ⟨(some 120), .op (.mv (.tmp 4)), some (115, false)⟩, []⟩,
    ⟨21, ⟨(some 121), .op (.iaddrS (.tmp 119) (.tmp 120) 1), some (115, false)⟩, []⟩,
    ⟨22, ⟨(some 122), .op (.load 1 false (.tmp 121)), some (115, false)⟩, []⟩,
    ⟨23, ⟨(some 123), .op (.mv (.tmp 5)), some (115, false)⟩, []⟩,
    ⟨24, ⟨(some 124), .op (.iaddrS (.tmp 122) (.tmp 123) 2), some (115, false)⟩, []⟩,
    ⟨25, ⟨(some 125), .op (.faddr (.tmp 124) 1), some (115, false)⟩, []⟩,
    ⟨26, ⟨(some 126), .op (.load 1 false (.tmp 125)), some (115, false)⟩, []⟩,
    ⟨27, ⟨(some 127), .op (.mv (.tmp 0)), some (115, false)⟩, []⟩,
    ⟨28, ⟨(some 128), .op (.nilc (.tmp 127)), some (115, false)⟩, []⟩,
    ⟨29, ⟨(some 129), .op (.faddr (.tmp 128) 0), some (115, false)⟩, []⟩,
    ⟨30, ⟨(some 130), .op (.load 1 false (.tmp 129)), some (115, false)⟩, []⟩,
    ⟨31, ⟨(some 131), .op (.bin .sub (.tmp 130) (.const (Value.int .i64 1))), some (115, false)⟩, []⟩,
    ⟨32, ⟨(some 132), .call (.func i_spec_l00In) [(.tmp 126), (.const (Value.int .i64 0)), (.tmp 131)], some (115, false)⟩, []⟩,
    ⟨33, ⟨(some 133), .op (.un .not (.tmp 132)), some (115, false)⟩, []⟩,
    ⟨34, ⟨(some 134), .op (.pick (.tmp 115) (.const (Value.bool true)) (.tmp 133)), none⟩, []⟩,
    ⟨35, ⟨(some 135), .op (.mv (.tmp 134)), none⟩, []⟩,
    ⟨36, ⟨(some 136), .op (.mv (.tmp 0)), some (135, false)⟩, []⟩,
    ⟨37, ⟨(some 137), .op (.nilc (.tmp 136)), some (135, false)⟩, []⟩,
    ⟨38, ⟨(some 138), .op (.faddr (.tmp 137) 4), some (135, false)⟩, []⟩,
    ⟨39, ⟨(some 139), .op (.load 1 false (.tmp 138)), some (135, false)⟩, []⟩,
    ⟨40, ⟨(some 140), .op (.mv (.tmp 4)), some (135, false)⟩, []⟩,
    ⟨41, ⟨(some 141), .op (.iaddrS (.tmp 139) (.tmp 140) 1), some (135, false)⟩, []⟩,
    ⟨42, ⟨(some 142), .op (.load 1 false (.tmp 141)), some (135, false)⟩, []⟩,
    ⟨43, ⟨(some 143), .op (.mv (.tmp 5)), some (135, false)⟩, []⟩,
    ⟨44, ⟨(some 144), .op (.iaddrS (.tmp 142) (.tmp 143) 1), some (135, false)⟩, []⟩,
    ⟨45, ⟨(some 145), .op (.load 1 false (.tmp 144)), some (135, false)⟩, []⟩,
    ⟨46, ⟨(some 146), .op (.mv (.tmp 0)), some (135, false)⟩, []⟩,
    ⟨47, ⟨(some 147), .op (.nilc (.tmp 146)), some (135, false)⟩, []⟩,
    ⟨48, ⟨(some 148), .op (.faddr (.tmp 147) 0), some (135, false)⟩, []⟩,
    ⟨49, ⟨(some 149), .op (.load 1 false (.tmp 148)), some (135, false)⟩, []⟩,
    ⟨50, ⟨(some 150), .op (.bin .add (.tmp 149) (.const (Value.int .i64 1))), some (135, false)⟩, []⟩,
    ⟨51, ⟨(some 151), .op (.mv (.tmp 3)), some (135, false)⟩, []⟩,
    ⟨52, ⟨(some 152), .call (.func i_spec_l02List) [(.tmp 145), (.tmp 150), (.tmp 151)], some (135, false)⟩, []⟩,
    ⟨53, ⟨(some 153), .op (.un .not (.tmp 152)), some (135, false)⟩, []⟩,
    ⟨54, ⟨(some 154), .op (.pick (.tmp 135) (.const (Value.bool true)) (.tmp 153)), none⟩, []⟩]
    [0, 1, 3, 7, 0, 31, 63, 0, 255, 511, 1023, 0, 2048, 8191, 16383, 32767, 65535, 131071, 262143, 524287, 65535, 2097151, 4194303, 65535, 16777215, 33554431, 67108863, 65535, 134283263, 402718719, 939589631, 2013331455, 4294967295, 8589934591, 17179869183, 34359738367, 68719476735, 137438953471, 274877906943, 549755813887, 68719476735, 2199023255551, 4398046511103, 68719476735, 17592186044415, 35184372088831, 68719476735, 70437463654399, 211174952009727, 492649928720383, 1055599882141695, 68719476735, 4503599627370495, 9007199254740991, 18014398509481983]) (.kill [100, 101, 102, 103, 104, 105, 106, 107, 108, 109, 110, 111, 112, 113, 114, 115, 116, 117, 118, 119, 120, 121, 122, 123, 124, 125, 126, 127, 128, 129, 130, 131, 132, 133, 134, 135, 136, 137, 138, 139, 140, 141, 142, 143, 144, 145, 146, 147, 148, 149, 150, 151, 152, 153]))
  (.cond (.tmp 154) (.ghost (.kill [0, 3, 4, 5, 154]) (.seq (.reg [⟨(some 2), .op (.mv (.const (Value.bool false))), none⟩])
  .ret))
  (.ghost (.kill [154]) .skip))))
  (.post (.reg [⟨(some 98), .op (.mv (.tmp 5)), none⟩,
    ⟨(some 99), .op (.bin .add (.tmp 98) (.const (Value.int .i64 1))), none⟩,
    ⟨(some 5), .op (.mv (.tmp 99)), none⟩]) (.kill [98, 99]))))
def lo_spec_l02Ok_0 : AC := (.loop lb_spec_l02Ok_0)
def lb_spec_l02Ok_1 : AC := (.seq (.seq (.post (.reg [⟨(some 59), .op (.mv (.tmp 4)), none⟩,
    ⟨(some 60), .op (.mv (.tmp 3)), none⟩,
    ⟨(some 61), .op (.bin .lss (.tmp 59) (.tmp 60)), none⟩]) (.kill [59, 60]))
  (.cond (.tmp 61) (.ghost (.kill [61]) .skip)
  (.ghost (.kill [0, 3, 4, 61]) (.exit 0))))
  (.seq (.block 1 (.seq (.seq (.post (.reg [⟨(some 64), .op (.mv (.tmp 0)), none⟩,
    ⟨(some 65), .op (.nilc (.tmp 64)), none⟩,
    ⟨(some 66), .op (.faddr (.tmp 65) 3), none⟩,
    ⟨(some 67), .op (.load 1 false (.tmp 66)), none⟩,
    ⟨(some 68), .op (.mv (.tmp 4)), none⟩,
    ⟨(some 69), .op (.iaddrS (.tmp 67) (.tmp 68) 1), none⟩,
    ⟨(some 70), .op (.load 1 false (.tmp 69)), none⟩,
    ⟨(some 71), .op (.len false (.tmp 70)), none⟩,
    ⟨(some 72), .op (.bin .neq (.tmp 71) (.const (Value.int .i64 2))), none⟩,
    ⟨(some 73), .op (.mv (.tmp 72)), none⟩,
    ⟨(some 74), .op (.mv (.tmp 0)), some (73, false)⟩,
    ⟨(some 75), .op (.nilc (.tmp 74)), some (73, false)⟩,
    ⟨(some 76), .op (.faddr (.tmp 75) 4), some (73, false)⟩,
    ⟨(some 77), .op (.load 1 false (.tmp 76)), some (73, false)⟩,
    ⟨(some 78), .op (.mv (.tmp 4)), some (73, false)⟩,
    ⟨(some 79), .op (.iaddrS (.tmp 77) (.tmp 78) 1), some (73, false)⟩,
    ⟨(some 80), .op (.load 1 false (.tmp 79)), some (73, false)⟩,
    ⟨(some 81), .op (.len false (.tmp 80)), some (73, false)⟩,
    ⟨(some 82), .op (.bin .neq (.tmp 81) (.const (Value.int .i64 2))), some (73, false)⟩,
    ⟨(some 83), .op (.pick (.tmp 73) (.const (Value.bool true)) (.tmp 82)), none⟩,
    ⟨(some 84), .op (.mv (.tmp 83)), none⟩,
    ⟨(some 85), .op (.mv (.tmp 0)), some (84, false)⟩,
    ⟨(some 86), .op (.nilc (.tmp 85)), some (84, false)⟩,
    ⟨(some 87), .op (.faddr (.tmp 86) 5), some (84, false)⟩,
    ⟨(some 88), .op (.load 1 false (.tmp 87)), some (84, false)⟩,
    ⟨(some 89), .op (.mv (.tmp 4)), some (84, false)⟩,
    ⟨(some 90), .op (.iaddrS (.tmp 88) (.tmp 89) 1), some (84, false)⟩,
    ⟨(some 91), .op (.load 1 false (.tmp 90)), some (84, false)⟩,
    ⟨(some 92), .op (.mv (.tmp 3)), some (84, false)⟩,
    ⟨(some 93), .call (.func i_spec_l02List) [(.tmp 91), (.const (Value.int .i64 2)), (.tmp 92)], some (84, false)⟩,
    ⟨(some 94), .op (.un .not (.tmp 93)), some (84, false)⟩,
    ⟨(some 95), .op (.pick (.tmp 84) (.const (Value.bool true)) (.tmp 94)), none⟩]) (.kill [64, 65, 66, 67, 68, 69, 70, 71, 72, 73, 74, 75, 76, 77, 78, 79, 80, 81, 82, 83, 84, 85, 86, 87, 88, 89, 90, 91, 92, 93, 94]))
  (.cond (.tmp 95) (.ghost (.kill [0, 3, 4, 95]) (.seq (.reg [⟨(some 2), .op (.mv (.const (Value.bool false))), none⟩])
  .ret))
  (.ghost (.kill [95]) .skip)))
  (.seq (.reg [⟨(some 5), .op (.mv (.const (Value.int .i64 0))), none⟩])
  (.block 2 lo_spec_l02Ok_0))))
  (.ghost (.kill [5]) (.post (.reg [⟨(some 62), .op (.mv (.tmp 4)), none⟩,
    ⟨(some 63), .op (.bin .add (.tmp 62) (.const (Value.int .i64 1))), none⟩,
    ⟨(some 4), .op (.mv (.tmp 63)), none⟩]) (.kill [62, 63])))))
def lo_spec_l02Ok_1 : AC := (.loop lb_spec_l02Ok_1)
def ac_spec_l02Ok : AC := (.seq (.post (.reg [⟨(some 2), .op (.mv (.const (Value.bool false))), none⟩]) (.kill [2]))
  (.seq (.post (.reg [⟨(some 6), .op (.mv (.tmp 0)), none⟩,
    ⟨(some 7), .op (.nilc (.tmp 6)), none⟩,
    ⟨(some 8), .op (.faddr (.tmp 7) 2), none⟩,
    ⟨(some 9), .op (.load 1 false (.tmp 8)), none⟩,
    ⟨(some 10), .op (.len false (.tmp 9)), none⟩,
    ⟨(some 3), .op (.mv (.tmp 10)), none⟩]) (.kill [6, 7, 8, 9, 10]))
  (.seq (.seq (.post (.reg [⟨(some 11), .op (.mv (.tmp 3)), none⟩,
    ⟨(some 12), .call (.func i_spec_l00In) [(.tmp 11), (.const (Value.int .i64 1)), (.const (Value.int .i64 40))], none⟩,
    ⟨(some 13), .op (.un .not (.tmp 12)), none⟩,
    ⟨(some 14), .op (.mv (.tmp 13)), none⟩,
    ⟨(some 15), .op (.mv (.tmp 0)), some (14, false)⟩,
    ⟨(some 16), .op (.nilc (.tmp 15)), some (14, false)⟩,
    ⟨(some 17), .op (.faddr (.tmp 16) 0), some (14, false)⟩,
    ⟨(some 18), .op (.load 1 false (.tmp 17)), some (14, false)⟩,
    ⟨(some 19), .call (.func i_spec_l00In) [(.tmp 18), (.const (Value.int .i64 1)), (.const (Value.int .i64 80))], some (14, false)⟩,
    ⟨(some 20), .op (.un .not (.tmp 19)), some (14, false)⟩,
    ⟨(some 21), .op (.pick (.tmp 14) (.const (Value.bool true)) (.tmp 20)), none⟩,
    ⟨(some 22), .op (.mv (.tmp 21)), none⟩,
    ⟨(some 23), .op (.mv (.tmp 0)), some (22, false)⟩,
    ⟨(some 24), .op (.nilc (.tmp 23)), some (22, false)⟩,
    ⟨(some 25), .op (.faddr (.tmp 24) 1), some (22, false)⟩,
    ⟨(some 26), .op (.load 1 false (.tmp 25)), some (22, false)⟩,
    ⟨(some 27), .op (.mv (.tmp 3)), some (22, false)⟩,
    ⟨(some 28), .op (.bin .sub (.tmp 27) (.const (Value.int .i64 1))), some (22, false)⟩,
    ⟨(some 29), .call (.func i_spec_l00In) [(.tmp 26), (.const (Value.int .i64 0)), (.tmp 28)], some (22, false)⟩,
    ⟨(some 30), .op (.un .not (.tmp 29)), some (22, false)⟩,
    ⟨(some 31), .op (.pick (.tmp 22) (.const (Value.bool true)) (.tmp 30)), none⟩,
    ⟨(some 32), .op (.mv (.tmp 31)), none⟩,
    ⟨(some 33), .op (.mv (.tmp 0)), some (32, false)⟩,
    ⟨(some 34), .op (.nilc (.tmp 33)), some (32, false)⟩,
    ⟨(some 35), .op (.faddr (.tmp 34) 3), some (32, false)⟩,
    ⟨(some 36), .op (.load 1 false (.tmp 35)), some (32, false)⟩,
    ⟨(some 37), .op (.len false (.tmp 36)), some (32, false)⟩,
    ⟨(some 38), .op (.mv (.tmp 3)), some (32, false)⟩,
    ⟨(some 39), .op (.bin .neq (.tmp 37) (.tmp 38)), some (32, false)⟩,
    ⟨(some 40), .op (.pick (.tmp 32) (.const (Value.bool true)) (.tmp 39)), none⟩,
    ⟨(some 41), .op (.mv (.tmp 40)), none⟩,
    ⟨(some 42), .op (.mv (.tmp 0)), some (41, false)⟩,
    ⟨(some 43), .op (.nilc (.tmp 42)), some (41, false)⟩,
    ⟨(some 44), .op (.faddr (.tmp 43) 4), some (41, false)⟩,
    ⟨(some 45), .op (.load 1 false (.tmp 44)), some (41, false)⟩,
    ⟨(some 46), .op (.len false (.tmp 45)), some (41, false)⟩,
    ⟨(some 47), .op (.mv (.tmp 3)), some (41, false)⟩,
    ⟨(some 48), .op (.bin .neq (.tmp 46) (.tmp 47)), some (41, false)⟩,
    ⟨(some 49), .op (.pick (.tmp 41) (.const (Value.bool true)) (.tmp 48)), none⟩,
    ⟨(some 50), .op (.mv (.tmp 49)), none⟩,
    ⟨(some 51), .op (.mv (.tmp 0)), some (50, false)⟩,
    ⟨(some 52), .op (.nilc (.tmp 51)), some (50, false)⟩,
    ⟨(some 53), .op (.faddr (.tmp 52) 5), some (50, false)⟩,
    ⟨(some 54), .op (.load 1 false (.tmp 53)), some (50, false)⟩,
    ⟨(some 55), .op (.len false (.tmp 54)), some (50, false)⟩,
    ⟨(some 56), .op (.mv (.tmp 3)), some (50, false)⟩,
    ⟨(some 57), .op (.bin .neq (.tmp 55) (.tmp 56)), some (50, false)⟩,
    ⟨(some 58), .op (.pick (.tmp 50) (.const (Value.bool true)) (.tmp 57)), none⟩]) (.kill [11, 12, 13, 14, 15, 16, 17, 18, 19, 20, 21, 22, 23, 24, 25, 26, 27, 28, 29, 30, 31, 32, 33, 34, 35, 36, 37, 38, 39, 40, 41, 42, 43, 44, 45, 46, 47, 48, 49, 50, 51, 52, 53, 54, 55, 56, 57]))
  (.cond (.tmp 58) (.ghost (.kill [0, 3, 58]) (.seq (.reg [⟨(some 2), .op (.mv (.const (Value.bool false))), none⟩])
  .ret))
  (.ghost (.kill [58]) .skip)))
  (.seq (.seq (.reg [⟨(some 4), .op (.mv (.const (Value.int .i64 0))), none⟩])
  (.block 0 lo_spec_l02Ok_1))
  (.ghost (.kill [0, 3, 4]) (.seq (.reg [⟨(some 2), .op (.mv (.const (Value.bool true))), none⟩])
  .ret))))))
theorem cf_spec_l02Ok : chkFn Try.prog i_spec_l02Ok ac_spec_l02Ok [.tmp 2] 155 = true := by decide +kernel
def fa_spec_l02Ok : FnA := ⟨ac_spec_l02Ok, [.tmp 2], 155, false, true, [], .any, none⟩

/-- The checked code of spec l00Own. -/
def ac_spec_l00Own : AC := (.seq (.post (.reg [⟨(some 2), .op (.mv (.const (Value.slice none 0 0))), none⟩]) (.kill [2]))
  (.seq (.post (.post (.reg [⟨(some 3), .op (.lits true 1 0 (Value.int .i64 0) []), none⟩,
    ⟨(some 4), .op (.mv (.tmp 0)), none⟩,
    ⟨(some 5), .op (.append (.tmp 3) (.tmp 4) 1 8), none⟩,
    ⟨(some 2), .op (.mv (.tmp 5)), none⟩]) (.kill [0, 3, 4, 5])) .nv)
  .ret))
theorem cf_spec_l00Own : chkFn Try.prog i_spec_l00Own ac_spec_l00Own [.tmp 2] 6 = true := by decide +kernel
def fa_spec_l00Own : FnA := ⟨ac_spec_l00Own, [.tmp 2], 6, false, false, [], .any, none⟩

/-- The checked code of spec l00Has. -/
def lb_spec_l00Has_0 : AC := (.seq (.seq (.post (.reg [⟨(some 6), .op (.mv (.tmp 5)), none⟩,
    ⟨(some 7), .op (.mv (.tmp 0)), none⟩,
    ⟨(some 8), .op (.len false (.tmp 7)), none⟩,
    ⟨(some 9), .op (.bin .lss (.tmp 6) (.tmp 8)), none⟩]) (.kill [6, 7, 8]))
  (.cond (.tmp 9) (.ghost (.kill [9]) .skip)
  (.ghost (.kill [0, 1, 5, 9]) (.exit 0))))
  (.seq (.block 1 (.seq (.post (.reg [⟨(some 12), .op (.mv (.tmp 0)), none⟩,
    ⟨(some 13), .op (.mv (.tmp 5)), none⟩,
    ⟨(some 14), .op (.iaddrS (.tmp 12) (.tmp 13) 1), none⟩,
    ⟨(some 15), .op (.load 1 false (.tmp 14)), none⟩,
    ⟨(some 16), .op (.mv (.tmp 1)), none⟩,
    ⟨(some 17), .op (.bin .eql (.tmp 15) (.tmp 16)), none⟩]) (.kill [12, 13, 14, 15, 16]))
  (.cond (.tmp 17) (.ghost (.kill [0, 1, 5, 17]) (.seq (.reg [⟨(some 4), .op (.mv (.const (Value.bool true))), none⟩])
  .ret))
  (.ghost (.kill [17]) .skip))))
  (.post (.reg [⟨(some 10), .op (.mv (.tmp 5)), none⟩,
    ⟨(some 11), .op (.bin .add (.tmp 10) (.const (Value.int .i64 1))), none⟩,
    ⟨(some 5), .op (.mv (.tmp 11)), none⟩]) (.kill [10, 11]))))
def lo_spec_l00Has_0 : AC := (.loop lb_spec_l00Has_0)
def ac_spec_l00Has : AC := (.seq (.post (.reg [⟨(some 4), .op (.mv (.const (Value.bool false))), none⟩]) (.kill [4]))
  (.seq (.seq (.reg [⟨(some 5), .op (.mv (.const (Value.int .i64 0))), none⟩])
  (.block 0 lo_spec_l00Has_0))
  (.ghost (.kill [0, 1, 5]) (.seq (.reg [⟨(some 4), .op (.mv (.const (Value.bool false))), none⟩])
  .ret))))
theorem cf_spec_l00Has : chkFn Try.prog i_spec_l00Has ac_spec_l00Has [.tmp 4] 18 = true := by decide +kernel
def fa_spec_l00Has : FnA := ⟨ac_spec_l00Has, [.tmp 4], 18, false, true, [], .any, none⟩

/-- The checked code of spec l00Put. -/
def lb_spec_l00Put_0 : AC := (.post (.seq (.seq (.post (.reg [⟨(some 9), .op (.mv (.tmp 7)), none⟩,
    ⟨(some 10), .op (.mv (.tmp 0)), none⟩,
    ⟨(some 11), .op (.len false (.tmp 10)), none⟩,
    ⟨(some 12), .op (.bin .lss (.tmp 9) (.tmp 11)), none⟩]) (.kill [9, 10, 11]))
  (.cond (.tmp 12) (.ghost (.kill [12]) .skip)
  (.ghost (.kill [0, 7, 12]) (.exit 0))))
  (.seq (.block 1 (.seq (.seq (.post (.reg [⟨(some 15), .op (.mv (.tmp 6)), none⟩,
    ⟨(some 16), .op (.un .not (.tmp 15)), none⟩,
    ⟨(some 17), .op (.mv (.tmp 16)), none⟩,
    ⟨(some 18), .op (.mv (.tmp 0)), some (17, true)⟩,
    ⟨(some 19), .op (.mv (.tmp 7)), some (17, true)⟩,
    ⟨(some 20), .op (.iaddrS (.tmp 18) (.tmp 19) 1), some (17, true)⟩,
    ⟨(some 21), .op (.load 1 false (.tmp 20)), some (17, true)⟩,
    ⟨(some 22), .op (.mv (.tmp 1)), some (17, true)⟩,
    ⟨(some 23), .op (.bin .geq (.tmp 21) (.tmp 22)), some (17, true)⟩,
    ⟨(some 24), .op (.pick (.tmp 17) (.tmp 23) (.const (Value.bool false))), none⟩]) (.kill [15, 16, 17, 18, 19, 20, 21, 22, 23]))
  (.cond (.tmp 24) (.ghost (.kill [6, 24]) (.seq (.reg [⟨(some 6), .op (.mv (.const (Value.bool true))), none⟩])
  (.seq (.post (.reg [⟨(some 25), .op (.mv (.tmp 0)), none⟩,
    ⟨(some 26), .op (.mv (.tmp 7)), none⟩,
    ⟨(some 27), .op (.iaddrS (.tmp 25) (.tmp 26) 1), none⟩,
    ⟨(some 28), .op (.load 1 false (.tmp 27)), none⟩,
    ⟨(some 29), .op (.mv (.tmp 1)), none⟩,
    ⟨(some 30), .op (.bin .gtr (.tmp 28) (.tmp 29)), none⟩]) (.kill [25, 26, 27, 28, 29]))
  (.cond (.tmp 30) (.ghost (.kill [30]) (.post (.post (.reg [⟨(some 31), .op (.mv (.tmp 5)), none⟩,
    ⟨(some 32), .op (.mv (.tmp 1)), none⟩,
    ⟨(some 33), .op (.lits true 1 1 (Value.int .i64 0) [(0, (.tmp 32))]), none⟩,
    ⟨(some 34), .op (.append (.tmp 31) (.tmp 33) 1 8), none⟩,
    ⟨(some 5), .op (.mv (.tmp 34)), none⟩]) (.kill [31, 32, 33, 34])) .nv))
  (.ghost (.kill [30]) .skip)))))
  (.ghost (.kill [24]) .skip)))
  (.post (.post (.reg [⟨(some 35), .op (.mv (.tmp 5)), none⟩,
    ⟨(some 36), .op (.mv (.tmp 0)), none⟩,
    ⟨(some 37), .op (.mv (.tmp 7)), none⟩,
    ⟨(some 38), .op (.iaddrS (.tmp 36) (.tmp 37) 1), none⟩,
    ⟨(some 39), .op (.load 1 false (.tmp 38)), none⟩,
    ⟨(some 40), .op (.lits true 1 1 (Value.int .i64 0) [(0, (.tmp 39))]), none⟩,
    ⟨(some 41), .op (.append (.tmp 35) (.tmp 40) 1 8), none⟩,
    ⟨(some 5), .op (.mv (.tmp 41)), none⟩]) (.kill [35, 36, 37, 38, 39, 40, 41])) .nv)))
  (.post (.reg [⟨(some 13), .op (.mv (.tmp 7)), none⟩,
    ⟨(some 14), .op (.bin .add (.tmp 13) (.const (Value.int .i64 1))), none⟩,
    ⟨(some 7), .op (.mv (.tmp 14)), none⟩]) (.kill [13, 14])))) .nv)
def lo_spec_l00Put_0 : AC := (.loop lb_spec_l00Put_0)
def ac_spec_l00Put : AC := (.seq (.post (.reg [⟨(some 4), .op (.mv (.const (Value.slice none 0 0))), none⟩]) (.kill [4]))
  (.seq (.post (.reg [⟨(some 8), .op (.lits true 1 0 (Value.int .i64 0) []), none⟩,
    ⟨(some 5), .op (.mv (.tmp 8)), none⟩]) (.kill [8]))
  (.seq (.reg [⟨(some 6), .op (.mv (.const (Value.bool false))), none⟩])
  (.seq (.seq (.reg [⟨(some 7), .op (.mv (.const (Value.int .i64 0))), none⟩])
  (.post (.block 0 (.ghost (.ow 5 none 1) (.ghost .nv lo_spec_l00Put_0))) .nv))
  (.ghost (.kill [0, 7]) (.seq (.seq (.post (.reg [⟨(some 42), .op (.mv (.tmp 6)), none⟩,
    ⟨(some 43), .op (.un .not (.tmp 42)), none⟩]) (.kill [6, 42]))
  (.cond (.tmp 43) (.ghost (.kill [43]) (.post (.post (.reg [⟨(some 44), .op (.mv (.tmp 5)), none⟩,
    ⟨(some 45), .op (.mv (.tmp 1)), none⟩,
    ⟨(some 46), .op (.lits true 1 1 (Value.int .i64 0) [(0, (.tmp 45))]), none⟩,
    ⟨(some 47), .op (.append (.tmp 44) (.tmp 46) 1 8), none⟩,
    ⟨(some 5), .op (.mv (.tmp 47)), none⟩]) (.kill [1, 44, 45, 46, 47])) .nv))
  (.ghost (.kill [1, 43]) .skip)))
  (.seq (.post (.reg [⟨(some 48), .op (.mv (.tmp 5)), none⟩,
    ⟨(some 4), .op (.mv (.tmp 48)), none⟩]) (.kill [5, 48]))
  .ret)))))))
theorem cf_spec_l00Put : chkFn Try.prog i_spec_l00Put ac_spec_l00Put [.tmp 4] 49 = true := by decide +kernel
def fa_spec_l00Put : FnA := ⟨ac_spec_l00Put, [.tmp 4], 49, false, true, [], .any, none⟩

/-- The checked code of spec l02Used. -/
def lb_spec_l02Used_0 : AC := (.post (.seq (.seq (.post (.reg [⟨(some 35), .op (.mv (.tmp 7)), none⟩,
    ⟨(some 36), .op (.bin .lss (.tmp 35) (.const (Value.int .i64 2))), none⟩]) (.kill [35]))
  (.cond (.tmp 36) (.ghost (.kill [36]) .skip)
  (.ghost (.kill [5, 7, 36]) (.exit 2))))
  (.seq (.block 3 (.post (.post (.draw [⟨0, ⟨(some 39), .op (.mv (.tmp 6)), none⟩, []⟩,
    ⟨1, ⟨(some 40), .op (.mv (.tmp 0)), none⟩, []⟩,
    ⟨2, ⟨(some 41), .op (.nilc (.tmp 40)), none⟩, []⟩,
    ⟨3, ⟨(some 42), .op (.faddr (.tmp 41) 3), none⟩, []⟩,
    ⟨4, ⟨(some 43), .op (.load 1 false (.tmp 42)), none⟩, []⟩,
    ⟨5, ⟨(some 44), .op (.mv (.tmp 5)), none⟩, []⟩,
    ⟨6, ⟨(some 45), .op (.iaddrS (.tmp 43) (.tmp 44) 1), none⟩, []⟩,
    ⟨7, ⟨(some 46), .op (.load 1 false (.tmp 45)), none⟩, []⟩,
    ⟨8, ⟨(some 47), .op (.mv (.tmp 7)), none⟩, []⟩,
    ⟨9, ⟨(some 48), .op (.iaddrS (.tmp 46) (.tmp 47) 2), none⟩, []⟩,
    ⟨10, ⟨(some 49), .op (.faddr (.tmp 48) 0), none⟩, []⟩,
    ⟨11, ⟨(some 50), .op (.load 1 false (.tmp 49)), none⟩, []⟩,
    ⟨12, ⟨(some 51), .op (.lits true 1 1 (Value.int .i64 0) [(0, (.tmp 50))]), none⟩, []⟩,
    ⟨14, ⟨(some 53), .op (.mv (.tmp 0)), none⟩, []⟩,
    ⟨15, ⟨(some 54), .op (.nilc (.tmp 53)), none⟩, []⟩,
    ⟨16, ⟨(some 55), .op (.faddr (.tmp 54) 4), none⟩, []⟩,
    ⟨17, ⟨(some 56), .op (.load 1 false (.tmp 55)), none⟩, []⟩,
    ⟨18, ⟨(some 57), .op (.mv (.tmp 5)), none⟩, []⟩,
    ⟨19, ⟨(some 58), .op (.iaddrS (.tmp 56) (.tmp 57) 1), none⟩, []⟩,
    ⟨20, ⟨(some 59), .op (.load 1 false (.tmp 58)), none⟩, []⟩,
    ⟨21, ⟨(some 60), .op (.mv (.tmp 7)), none⟩, []⟩,
    ⟨22, ⟨(some 61), .op (.iaddrS (.tmp 59) (.tmp 60) 1), none⟩, []⟩,
    ⟨23, ⟨(some 62), .op (.load 1 false (.tmp 61)), none⟩, []⟩,
    ⟨13, ⟨(some 52), .op (.append (.tmp 39) (.tmp 51) 1 8), none⟩, [17, 19, 20, 22, 23]⟩,
    ⟨24, ⟨(some 63), .op (.append (.tmp 52) (.tmp 62) 1 8), none⟩, []⟩,
    ⟨25, ⟨(some 6), .op (.mv (.tmp 63)), none⟩, []⟩]
    [0, 0, 2, 6, 14, 0, 62, 126, 0, 510, 1022, 2046, 4094, 8191, 0, 16384, 49152, 114688, 0, 507904, 1032192, 0, 4177920, 8372224, 16777215, 33554431]) (.kill [39, 40, 41, 42, 43, 44, 45, 46, 47, 48, 49, 50, 51, 52, 53, 54, 55, 56, 57, 58, 59, 60, 61, 62, 63])) .nv))
  (.post (.reg [⟨(some 37), .op (.mv (.tmp 7)), none⟩,
    ⟨(some 38), .op (.bin .add (.tmp 37) (.const (Value.int .i64 1))), none⟩,
    ⟨(some 7), .op (.mv (.tmp 38)), none⟩]) (.kill [37, 38])))) .nv)
def lo_spec_l02Used_0 : AC := (.loop lb_spec_l02Used_0)
def lb_spec_l02Used_1 : AC := (.post (.seq (.seq (.post (.reg [⟨(some 64), .op (.mv (.tmp 8)), none⟩,
    ⟨(some 65), .op (.mv (.tmp 6)), none⟩,
    ⟨(some 66), .op (.len false (.tmp 65)), none⟩,
    ⟨(some 67), .op (.bin .lss (.tmp 64) (.tmp 66)), none⟩]) (.kill [64, 65, 66]))
  (.cond (.tmp 67) (.ghost (.kill [67]) .skip)
  (.ghost (.kill [6, 8, 67]) (.exit 4))))
  (.seq (.block 5 (.seq (.post (.reg [⟨(some 70), .op (.mv (.tmp 3)), none⟩,
    ⟨(some 71), .op (.mv (.tmp 6)), none⟩,
    ⟨(some 72), .op (.mv (.tmp 8)), none⟩,
    ⟨(some 73), .op (.iaddrS (.tmp 71) (.tmp 72) 1), none⟩,
    ⟨(some 74), .op (.load 1 false (.tmp 73)), none⟩,
    ⟨(some 75), .call (.func i_spec_l00Has) [(.tmp 70), (.tmp 74)], none⟩,
    ⟨(some 76), .op (.un .not (.tmp 75)), none⟩]) (.kill [70, 71, 72, 73, 74, 75]))
  (.cond (.tmp 76) (.ghost (.kill [76]) (.seq (.post (.reg [⟨(some 77), .op (.mv (.tmp 3)), none⟩,
    ⟨(some 78), .op (.mv (.tmp 6)), none⟩,
    ⟨(some 79), .op (.mv (.tmp 8)), none⟩,
    ⟨(some 80), .op (.iaddrS (.tmp 78) (.tmp 79) 1), none⟩,
    ⟨(some 81), .op (.load 1 false (.tmp 80)), none⟩,
    ⟨(some 82), .call (.func i_spec_l00Put) [(.tmp 77), (.tmp 81)], none⟩,
    ⟨(some 3), .op (.mv (.tmp 82)), none⟩]) (.kill [77, 78, 79, 80, 81, 82]))
  (.post (.post (.reg [⟨(some 83), .op (.mv (.tmp 4)), none⟩,
    ⟨(some 84), .op (.mv (.tmp 6)), none⟩,
    ⟨(some 85), .op (.mv (.tmp 8)), none⟩,
    ⟨(some 86), .op (.iaddrS (.tmp 84) (.tmp 85) 1), none⟩,
    ⟨(some 87), .op (.load 1 false (.tmp 86)), none⟩,
    ⟨(some 88), .op (.lits true 1 1 (Value.int .i64 0) [(0, (.tmp 87))]), none⟩,
    ⟨(some 89), .op (.append (.tmp 83) (.tmp 88) 1 8), none⟩,
    ⟨(some 4), .op (.mv (.tmp 89)), none⟩]) (.kill [83, 84, 85, 86, 87, 88, 89])) .nv)))
  (.ghost (.kill [76]) .skip))))
  (.post (.reg [⟨(some 68), .op (.mv (.tmp 8)), none⟩,
    ⟨(some 69), .op (.bin .add (.tmp 68) (.const (Value.int .i64 1))), none⟩,
    ⟨(some 8), .op (.mv (.tmp 69)), none⟩]) (.kill [68, 69])))) .nv)
def lo_spec_l02Used_1 : AC := (.loop lb_spec_l02Used_1)
def lb_spec_l02Used_2 : AC := (.post (.seq (.seq (.post (.reg [⟨(some 19), .op (.mv (.tmp 4)), none⟩,
    ⟨(some 20), .op (.len false (.tmp 19)), none⟩,
    ⟨(some 21), .op (.bin .gtr (.tmp 20) (.const (Value.int .i64 0))), none⟩]) (.kill [19, 20]))
  (.cond (.tmp 21) (.ghost (.kill [21]) .skip)
  (.ghost (.kill [0, 4, 21]) (.exit 0))))
  (.block 1 (.seq (.post (.reg [⟨(some 22), .op (.mv (.tmp 4)), none⟩,
    ⟨(some 23), .op (.iaddrS (.tmp 22) (.const (Value.int .i64 0)) 1), none⟩,
    ⟨(some 24), .op (.load 1 false (.tmp 23)), none⟩,
    ⟨(some 5), .op (.mv (.tmp 24)), none⟩]) (.kill [22, 23, 24]))
  (.seq (.post (.post (.reg [⟨(some 25), .op (.mv (.tmp 4)), none⟩,
    ⟨(some 26), .op (.slcS (.tmp 25) (some (.const (Value.int .i64 1))) none none 1), none⟩,
    ⟨(some 4), .op (.mv (.tmp 26)), none⟩]) (.kill [25, 26])) .nv)
  (.seq (.post (.reg [⟨(some 27), .op (.mv (.tmp 0)), none⟩,
    ⟨(some 28), .op (.nilc (.tmp 27)), none⟩,
    ⟨(some 29), .op (.faddr (.tmp 28) 5), none⟩,
    ⟨(some 30), .op (.load 1 false (.tmp 29)), none⟩,
    ⟨(some 31), .op (.mv (.tmp 5)), none⟩,
    ⟨(some 32), .op (.iaddrS (.tmp 30) (.tmp 31) 1), none⟩,
    ⟨(some 33), .op (.load 1 false (.tmp 32)), none⟩,
    ⟨(some 34), .call (.func i_spec_l00Own) [(.tmp 33)], none⟩,
    ⟨(some 6), .op (.mv (.tmp 34)), none⟩]) (.kill [27, 28, 29, 30, 31, 32, 33, 34]))
  (.seq (.seq (.reg [⟨(some 7), .op (.mv (.const (Value.int .i64 0))), none⟩])
  (.post (.block 2 (.ghost (.ow 4 none 1) (.ghost (.ow 6 none 1) (.ghost .nv lo_spec_l02Used_0)))) .nv))
  (.ghost (.kill [5, 7]) (.seq (.reg [⟨(some 8), .op (.mv (.const (Value.int .i64 0))), none⟩])
  (.post (.block 4 (.ghost (.ow 4 none 1) (.ghost (.ow 6 none 1) (.ghost .nv lo_spec_l02Used_1)))) .nv))))))))) .nv)
def lo_spec_l02Used_2 : AC := (.loop lb_spec_l02Used_2)
def ac_spec_l02Used : AC := (.seq (.post (.reg [⟨(some 2), .op (.mv (.const (Value.slice none 0 0))), none⟩]) (.kill [2]))
  (.seq (.post (.reg [⟨(some 9), .op (.mv (.tmp 0)), none⟩,
    ⟨(some 10), .op (.nilc (.tmp 9)), none⟩,
    ⟨(some 11), .op (.faddr (.tmp 10) 1), none⟩,
    ⟨(some 12), .op (.load 1 false (.tmp 11)), none⟩,
    ⟨(some 13), .op (.lits true 1 1 (Value.int .i64 0) [(0, (.tmp 12))]), none⟩,
    ⟨(some 3), .op (.mv (.tmp 13)), none⟩]) (.kill [9, 10, 11, 12, 13]))
  (.seq (.post (.reg [⟨(some 14), .op (.mv (.tmp 0)), none⟩,
    ⟨(some 15), .op (.nilc (.tmp 14)), none⟩,
    ⟨(some 16), .op (.faddr (.tmp 15) 1), none⟩,
    ⟨(some 17), .op (.load 1 false (.tmp 16)), none⟩,
    ⟨(some 18), .op (.lits false 1 1 (Value.int .i64 0) [(0, (.tmp 17))]), none⟩,
    ⟨(some 4), .op (.mv (.tmp 18)), none⟩]) (.kill [14, 15, 16, 17, 18]))
  (.seq (.post (.block 0 (.ghost (.ow 4 none 1) (.ghost .nv lo_spec_l02Used_2))) .nv)
  (.ghost (.kill [0, 4, 6, 8]) (.seq (.post (.reg [⟨(some 90), .op (.mv (.tmp 3)), none⟩,
    ⟨(some 2), .op (.mv (.tmp 90)), none⟩]) (.kill [3, 90]))
  .ret))))))
theorem cf_spec_l02Used : chkFn Try.prog i_spec_l02Used ac_spec_l02Used [.tmp 2] 91 = true := by decide +kernel
def fa_spec_l02Used : FnA := ⟨ac_spec_l02Used, [.tmp 2], 91, false, true, [], .any, none⟩

/-- The checked code of spec TrimChecker. -/
def lb_spec_TrimChecker_0 : AC := (.seq (.seq (.post (.reg [⟨(some 24), .op (.mv (.tmp 6)), none⟩,
    ⟨(some 25), .op (.mv (.tmp 4)), none⟩,
    ⟨(some 26), .op (.len false (.tmp 25)), none⟩,
    ⟨(some 27), .op (.bin .lss (.tmp 24) (.tmp 26)), none⟩]) (.kill [24, 25, 26]))
  (.cond (.tmp 27) (.ghost (.kill [27]) .skip)
  (.ghost (.kill [6, 27]) (.exit 0))))
  (.seq (.block 1 (.post (.reg [⟨(some 30), .op (.mv (.tmp 5)), none⟩,
    ⟨(some 31), .op (.mv (.tmp 4)), none⟩,
    ⟨(some 32), .op (.mv (.tmp 6)), none⟩,
    ⟨(some 33), .op (.iaddrS (.tmp 31) (.tmp 32) 1), none⟩,
    ⟨(some 34), .op (.load 1 false (.tmp 33)), none⟩,
    ⟨(some 35), .op (.mv (.tmp 6)), none⟩,
    ⟨(some 36), .op (.iaddrS (.tmp 30) (.tmp 34) 1), none⟩,
    ⟨none, .op (.store 1 (.tmp 36) (.tmp 35)), none⟩]) (.kill [30, 31, 32, 33, 34, 35, 36])))
  (.post (.reg [⟨(some 28), .op (.mv (.tmp 6)), none⟩,
    ⟨(some 29), .op (.bin .add (.tmp 28) (.const (Value.int .i64 1))), none⟩,
    ⟨(some 6), .op (.mv (.tmp 29)), none⟩]) (.kill [28, 29]))))
def lo_spec_TrimChecker_0 : AC := (.loop lb_spec_TrimChecker_0)
def lb_spec_TrimChecker_1 : AC := (.seq (.seq (.post (.reg [⟨(some 88), .op (.mv (.tmp 15)), none⟩,
    ⟨(some 89), .op (.faddr (.tmp 1) 4), none⟩,
    ⟨(some 90), .op (.load 1 false (.tmp 89)), none⟩,
    ⟨(some 91), .op (.mv (.tmp 9)), none⟩,
    ⟨(some 92), .op (.iaddrS (.tmp 90) (.tmp 91) 1), none⟩,
    ⟨(some 93), .op (.load 1 false (.tmp 92)), none⟩,
    ⟨(some 94), .op (.mv (.tmp 13)), none⟩,
    ⟨(some 95), .op (.iaddrS (.tmp 93) (.tmp 94) 1), none⟩,
    ⟨(some 96), .op (.load 1 false (.tmp 95)), none⟩,
    ⟨(some 97), .op (.len false (.tmp 96)), none⟩,
    ⟨(some 98), .op (.bin .lss (.tmp 88) (.tmp 97)), none⟩]) (.kill [88, 89, 90, 91, 92, 93, 94, 95, 96, 97]))
  (.cond (.tmp 98) (.ghost (.kill [98]) .skip)
  (.ghost (.kill [15, 98]) (.exit 6))))
  (.seq (.block 7 (.post (.reg [⟨(some 101), .op (.mv (.tmp 14)), none⟩,
    ⟨(some 102), .op (.mv (.tmp 5)), none⟩,
    ⟨(some 103), .op (.faddr (.tmp 1) 4), none⟩,
    ⟨(some 104), .op (.load 1 false (.tmp 103)), none⟩,
    ⟨(some 105), .op (.mv (.tmp 9)), none⟩,
    ⟨(some 106), .op (.iaddrS (.tmp 104) (.tmp 105) 1), none⟩,
    ⟨(some 107), .op (.load 1 false (.tmp 106)), none⟩,
    ⟨(some 108), .op (.mv (.tmp 13)), none⟩,
    ⟨(some 109), .op (.iaddrS (.tmp 107) (.tmp 108) 1), none⟩,
    ⟨(some 110), .op (.load 1 false (.tmp 109)), none⟩,
    ⟨(some 111), .op (.mv (.tmp 15)), none⟩,
    ⟨(some 112), .op (.iaddrS (.tmp 110) (.tmp 111) 1), none⟩,
    ⟨(some 113), .op (.load 1 false (.tmp 112)), none⟩,
    ⟨(some 114), .op (.iaddrS (.tmp 102) (.tmp 113) 1), none⟩,
    ⟨(some 115), .op (.load 1 false (.tmp 114)), none⟩,
    ⟨(some 116), .op (.lits true 1 1 (Value.int .i64 0) [(0, (.tmp 115))]), none⟩,
    ⟨(some 117), .op (.append (.tmp 101) (.tmp 116) 1 8), none⟩,
    ⟨(some 14), .op (.mv (.tmp 117)), none⟩]) (.kill [101, 102, 103, 104, 105, 106, 107, 108, 109, 110, 111, 112, 113, 114, 115, 116, 117])))
  (.post (.reg [⟨(some 99), .op (.mv (.tmp 15)), none⟩,
    ⟨(some 100), .op (.bin .add (.tmp 99) (.const (Value.int .i64 1))), none⟩,
    ⟨(some 15), .op (.mv (.tmp 100)), none⟩]) (.kill [99, 100]))))
def lo_spec_TrimChecker_1 : AC := (.loop lb_spec_TrimChecker_1)
def lb_spec_TrimChecker_2 : AC := (.seq (.seq (.post (.reg [⟨(some 58), .op (.mv (.tmp 13)), none⟩,
    ⟨(some 59), .op (.bin .lss (.tmp 58) (.const (Value.int .i64 2))), none⟩]) (.kill [58]))
  (.cond (.tmp 59) (.ghost (.kill [59]) .skip)
  (.ghost (.kill [13, 59]) (.exit 4))))
  (.seq (.block 5 (.seq (.post (.draw [⟨0, ⟨(some 62), .op (.mv (.tmp 10)), none⟩, []⟩,
    ⟨1, ⟨(some 63), .op (.mv (.tmp 5)), none⟩, []⟩,
    ⟨2, ⟨(some 64), .op (.faddr (.tmp 1) 3), none⟩, []⟩,
    ⟨3, ⟨(some 65), .op (.load 1 false (.tmp 64)), none⟩, []⟩,
    ⟨4, ⟨(some 66), .op (.mv (.tmp 9)), none⟩, []⟩,
    ⟨5, ⟨(some 67), .op (.iaddrS (.tmp 65) (.tmp 66) 1), none⟩, []⟩,
    ⟨6, ⟨(some 68), .op (.load 1 false (.tmp 67)), none⟩, []⟩,
    ⟨7, ⟨(some 69), .op (.mv (.tmp 13)), none⟩, []⟩,
    ⟨8, ⟨(some 70), .op (.iaddrS (.tmp 68) (.tmp 69) 2), none⟩, []⟩,
    ⟨9, ⟨(some 71), .op (.faddr (.tmp 70) 0), none⟩, []⟩,
    ⟨10, ⟨(some 72), .op (.load 1 false (.tmp 71)), none⟩, []⟩,
    ⟨11, ⟨(some 73), .op (.iaddrS (.tmp 63) (.tmp 72) 1), none⟩, []⟩,
    ⟨12, ⟨(some 74), .op (.load 1 false (.tmp 73)), none⟩, []⟩,
    ⟨13, ⟨(some 75), .op (.faddr (.tmp 1) 3), none⟩, []⟩,
    ⟨14, ⟨(some 76), .op (.load 1 false (.tmp 75)), none⟩, []⟩,
    ⟨15, ⟨(some 77), .op (.mv (.tmp 9)), none⟩, []⟩,
    ⟨16, ⟨(some 78), .op (.iaddrS (.tmp 76) (.tmp 77) 1), none⟩, []⟩,
    ⟨17, ⟨(some 79), .op (.load 1 false (.tmp 78)), none⟩, []⟩,
    ⟨18, ⟨(some 80), .op (.mv (.tmp 13)), none⟩, []⟩,
    ⟨19, ⟨(some 81), .op (.iaddrS (.tmp 79) (.tmp 80) 2), none⟩, []⟩,
    ⟨20, ⟨(some 82), .op (.faddr (.tmp 81) 1), none⟩, []⟩,
    ⟨21, ⟨(some 83), .op (.load 1 false (.tmp 82)), none⟩, []⟩,
    ⟨22, ⟨(some 84), .op (.build [Value.int .i64 0, Value.int .i64 0] [(0, 1, (.tmp 74)), (1, 1, (.tmp 83))]), none⟩, []⟩,
    ⟨23, ⟨(some 85), .op (.lits true 2 1 (Value.agg #[Value.int .i64 0, Value.int .i64 0]) [(0, (.tmp 84))]), none⟩, []⟩,
    ⟨24, ⟨(some 86), .op (.append (.tmp 62) (.tmp 85) 2 16), none⟩, []⟩,
    ⟨25, ⟨(some 10), .op (.mv (.tmp 86)), none⟩, []⟩]
    [0, 0, 0, 4, 0, 28, 60, 0, 252, 508, 1020, 2046, 4094, 0, 8192, 0, 57344, 122880, 0, 516096, 1040384, 2088960, 4194302, 8388606, 16777215, 33554431]) (.kill [62, 63, 64, 65, 66, 67, 68, 69, 70, 71, 72, 73, 74, 75, 76, 77, 78, 79, 80, 81, 82, 83, 84, 85, 86]))
  (.seq (.post (.reg [⟨(some 87), .op (.lits true 1 0 (Value.int .i64 0) []), none⟩,
    ⟨(some 14), .op (.mv (.tmp 87)), none⟩]) (.kill [87]))
  (.seq (.seq (.reg [⟨(some 15), .op (.mv (.const (Value.int .i64 0))), none⟩])
  (.block 6 (.ghost (.ow 7 (some 2) 1) (.ghost (.ow 7 (some 3) 1) (.ghost (.ow 7 (some 4) 1) (.ghost (.ow 7 (some 5) 1) (.ghost (.ow 10 none 2) (.ghost (.ow 11 none 1) (.ghost (.ow 12 none 1) (.ghost (.ow 14 none 1) lo_spec_TrimChecker_1))))))))))
  (.ghost (.kill [15]) (.seq (.post (.reg [⟨(some 118), .op (.mv (.tmp 11)), none⟩,
    ⟨(some 119), .op (.mv (.tmp 14)), none⟩,
    ⟨(some 120), .op (.lits true 1 1 (Value.slice none 0 0) [(0, (.tmp 119))]), none⟩,
    ⟨(some 121), .op (.append (.tmp 118) (.tmp 120) 1 24), none⟩,
    ⟨(some 11), .op (.mv (.tmp 121)), none⟩]) (.kill [14, 118, 119, 120, 121]))
  (.post (.reg [⟨(some 122), .op (.mv (.tmp 12)), none⟩,
    ⟨(some 123), .op (.mv (.tmp 5)), none⟩,
    ⟨(some 124), .op (.faddr (.tmp 1) 5), none⟩,
    ⟨(some 125), .op (.load 1 false (.tmp 124)), none⟩,
    ⟨(some 126), .op (.mv (.tmp 9)), none⟩,
    ⟨(some 127), .op (.iaddrS (.tmp 125) (.tmp 126) 1), none⟩,
    ⟨(some 128), .op (.load 1 false (.tmp 127)), none⟩,
    ⟨(some 129), .op (.mv (.tmp 13)), none⟩,
    ⟨(some 130), .op (.iaddrS (.tmp 128) (.tmp 129) 1), none⟩,
    ⟨(some 131), .op (.load 1 false (.tmp 130)), none⟩,
    ⟨(some 132), .op (.iaddrS (.tmp 123) (.tmp 131) 1), none⟩,
    ⟨(some 133), .op (.load 1 false (.tmp 132)), none⟩,
    ⟨(some 134), .op (.lits true 1 1 (Value.int .i64 0) [(0, (.tmp 133))]), none⟩,
    ⟨(some 135), .op (.append (.tmp 122) (.tmp 134) 1 8), none⟩,
    ⟨(some 12), .op (.mv (.tmp 135)), none⟩]) (.kill [122, 123, 124, 125, 126, 127, 128, 129, 130, 131, 132, 133, 134, 135]))))))))
  (.post (.reg [⟨(some 60), .op (.mv (.tmp 13)), none⟩,
    ⟨(some 61), .op (.bin .add (.tmp 60) (.const (Value.int .i64 1))), none⟩,
    ⟨(some 13), .op (.mv (.tmp 61)), none⟩]) (.kill [60, 61]))))
def lo_spec_TrimChecker_2 : AC := (.loop lb_spec_TrimChecker_2)
def lb_spec_TrimChecker_3 : AC := (.seq (.seq (.post (.reg [⟨(some 45), .op (.mv (.tmp 8)), none⟩,
    ⟨(some 46), .op (.mv (.tmp 4)), none⟩,
    ⟨(some 47), .op (.len false (.tmp 46)), none⟩,
    ⟨(some 48), .op (.bin .lss (.tmp 45) (.tmp 47)), none⟩]) (.kill [45, 46, 47]))
  (.cond (.tmp 48) (.ghost (.kill [48]) .skip)
  (.ghost (.kill [1, 4, 5, 8, 48]) (.exit 2))))
  (.seq (.block 3 (.seq (.post (.reg [⟨(some 51), .op (.mv (.tmp 4)), none⟩,
    ⟨(some 52), .op (.mv (.tmp 8)), none⟩,
    ⟨(some 53), .op (.iaddrS (.tmp 51) (.tmp 52) 1), none⟩,
    ⟨(some 54), .op (.load 1 false (.tmp 53)), none⟩,
    ⟨(some 9), .op (.mv (.tmp 54)), none⟩]) (.kill [51, 52, 53, 54]))
  (.seq (.post (.reg [⟨(some 55), .op (.lits true 2 0 (Value.agg #[Value.int .i64 0, Value.int .i64 0]) []), none⟩,
    ⟨(some 10), .op (.mv (.tmp 55)), none⟩]) (.kill [55]))
  (.seq (.post (.reg [⟨(some 56), .op (.lits true 1 0 (Value.slice none 0 0) []), none⟩,
    ⟨(some 11), .op (.mv (.tmp 56)), none⟩]) (.kill [56]))
  (.seq (.post (.reg [⟨(some 57), .op (.lits true 1 0 (Value.int .i64 0) []), none⟩,
    ⟨(some 12), .op (.mv (.tmp 57)), none⟩]) (.kill [57]))
  (.seq (.seq (.reg [⟨(some 13), .op (.mv (.const (Value.int .i64 0))), none⟩])
  (.block 4 (.ghost (.ow 7 (some 2) 1) (.ghost (.ow 7 (some 3) 1) (.ghost (.ow 7 (some 4) 1) (.ghost (.ow 7 (some 5) 1) (.ghost (.ow 10 none 2) (.ghost (.ow 11 none 1) (.ghost (.ow 12 none 1) lo_spec_TrimChecker_2)))))))))
  (.ghost (.kill [13]) (.seq (.post (.draw [⟨0, ⟨(some 136), .op (.faddr (.tmp 7) 2), none⟩, []⟩,
    ⟨1, ⟨(some 137), .op (.load 1 false (.tmp 136)), none⟩, []⟩,
    ⟨2, ⟨(some 138), .op (.faddr (.tmp 1) 2), none⟩, []⟩,
    ⟨3, ⟨(some 139), .op (.load 1 false (.tmp 138)), none⟩, []⟩,
    ⟨4, ⟨(some 140), .op (.mv (.tmp 9)), none⟩, []⟩,
    ⟨5, ⟨(some 141), .op (.iaddrS (.tmp 139) (.tmp 140) 1), none⟩, []⟩,
    ⟨6, ⟨(some 142), .op (.load 1 false (.tmp 141)), none⟩, []⟩,
    ⟨7, ⟨(some 143), .op (.lits true 1 1 (Value.bool false) [(0, (.tmp 142))]), none⟩, []⟩,
    ⟨8, ⟨(some 144), .op (.append (.tmp 137) (.tmp 143) 1 1), none⟩, []⟩,
    ⟨9, ⟨(some 145), .op (.faddr (.tmp 7) 2), none⟩, []⟩,
    ⟨10, ⟨none, .op (.store 1 (.tmp 145) (.tmp 144)), none⟩, []⟩]
    [0, 1, 0, 4, 0, 28, 60, 124, 255, 511, 1023]) (.kill [9, 136, 137, 138, 139, 140, 141, 142, 143, 144, 145]))
  (.seq (.post (.reg [⟨(some 146), .op (.faddr (.tmp 7) 3), none⟩,
    ⟨(some 147), .op (.load 1 false (.tmp 146)), none⟩,
    ⟨(some 148), .op (.mv (.tmp 10)), none⟩,
    ⟨(some 149), .op (.lits true 1 1 (Value.slice none 0 0) [(0, (.tmp 148))]), none⟩,
    ⟨(some 150), .op (.append (.tmp 147) (.tmp 149) 1 24), none⟩,
    ⟨(some 151), .op (.faddr (.tmp 7) 3), none⟩,
    ⟨none, .op (.store 1 (.tmp 151) (.tmp 150)), none⟩]) (.kill [10, 146, 147, 148, 149, 150, 151]))
  (.seq (.post (.reg [⟨(some 152), .op (.faddr (.tmp 7) 4), none⟩,
    ⟨(some 153), .op (.load 1 false (.tmp 152)), none⟩,
    ⟨(some 154), .op (.mv (.tmp 11)), none⟩,
    ⟨(some 155), .op (.lits true 1 1 (Value.slice none 0 0) [(0, (.tmp 154))]), none⟩,
    ⟨(some 156), .op (.append (.tmp 153) (.tmp 155) 1 24), none⟩,
    ⟨(some 157), .op (.faddr (.tmp 7) 4), none⟩,
    ⟨none, .op (.store 1 (.tmp 157) (.tmp 156)), none⟩]) (.kill [11, 152, 153, 154, 155, 156, 157]))
  (.post (.reg [⟨(some 158), .op (.faddr (.tmp 7) 5), none⟩,
    ⟨(some 159), .op (.load 1 false (.tmp 158)), none⟩,
    ⟨(some 160), .op (.mv (.tmp 12)), none⟩,
    ⟨(some 161), .op (.lits true 1 1 (Value.slice none 0 0) [(0, (.tmp 160))]), none⟩,
    ⟨(some 162), .op (.append (.tmp 159) (.tmp 161) 1 24), none⟩,
    ⟨(some 163), .op (.faddr (.tmp 7) 5), none⟩,
    ⟨none, .op (.store 1 (.tmp 163) (.tmp 162)), none⟩]) (.kill [12, 158, 159, 160, 161, 162, 163]))))))))))))
  (.post (.reg [⟨(some 49), .op (.mv (.tmp 8)), none⟩,
    ⟨(some 50), .op (.bin .add (.tmp 49) (.const (Value.int .i64 1))), none⟩,
    ⟨(some 8), .op (.mv (.tmp 50)), none⟩]) (.kill [49, 50]))))
def lo_spec_TrimChecker_3 : AC := (.loop lb_spec_TrimChecker_3)
def ac_spec_TrimChecker : AC := (.seq (.post (.reg [⟨(some 1), .op (.box true (.tmp 0)), none⟩,
    ⟨(some 2), .op (.alloc (Value.agg #[Value.int .i64 0, Value.int .i64 0, Value.slice none 0 0, Value.slice none 0 0, Value.slice none 0 0, Value.slice none 0 0])), none⟩,
    ⟨(some 3), .op (.mv (.const (Value.int .i64 0))), none⟩]) (.kill [0, 3]))
  (.seq (.seq (.post (.reg [⟨(some 16), .call (.func i_spec_l02Ok) [(.tmp 1)], none⟩,
    ⟨(some 17), .op (.un .not (.tmp 16)), none⟩]) (.kill [16]))
  (.cond (.tmp 17) (.ghost (.kill [1, 17]) (.seq (.post (.reg [⟨(some 18), .op (.build [Value.int .i64 0, Value.int .i64 0, Value.slice none 0 0, Value.slice none 0 0, Value.slice none 0 0, Value.slice none 0 0] []), none⟩,
    ⟨none, .op (.store 6 (.tmp 2) (.tmp 18)), none⟩,
    ⟨(some 3), .op (.mv (.const (Value.int .i64 1))), none⟩]) (.kill [18]))
  .ret))
  (.ghost (.kill [17]) .skip)))
  (.seq (.post (.reg [⟨(some 19), .call (.func i_spec_l02Used) [(.tmp 1)], none⟩,
    ⟨(some 4), .op (.mv (.tmp 19)), none⟩]) (.kill [19]))
  (.seq (.post (.reg [⟨(some 20), .op (.faddr (.tmp 1) 2), none⟩,
    ⟨(some 21), .op (.load 1 false (.tmp 20)), none⟩,
    ⟨(some 22), .op (.len false (.tmp 21)), none⟩,
    ⟨(some 23), .op (.make (.tmp 22) (.tmp 22) 1 8 (Value.int .i64 0)), none⟩,
    ⟨(some 5), .op (.mv (.tmp 23)), none⟩]) (.kill [20, 21, 22, 23]))
  (.seq (.seq (.reg [⟨(some 6), .op (.mv (.const (Value.int .i64 0))), none⟩])
  (.post (.post (.block 0 lo_spec_TrimChecker_0) (.fz 5)) .nv))
  (.ghost (.kill [6]) (.seq (.post (.draw [⟨0, ⟨(some 37), .op (.faddr (.tmp 1) 0), none⟩, []⟩,
    ⟨1, ⟨(some 38), .op (.load 1 false (.tmp 37)), none⟩, []⟩,
    ⟨2, ⟨(some 39), .op (.mv (.tmp 5)), none⟩, []⟩,
    ⟨3, ⟨(some 40), .op (.faddr (.tmp 1) 1), none⟩, []⟩,
    ⟨4, ⟨(some 41), .op (.load 1 false (.tmp 40)), none⟩, []⟩,
    ⟨5, ⟨(some 42), .op (.iaddrS (.tmp 39) (.tmp 41) 1), none⟩, []⟩,
    ⟨6, ⟨(some 43), .op (.load 1 false (.tmp 42)), none⟩, []⟩,
    ⟨7, ⟨(some 44), .op (.build [Value.int .i64 0, Value.int .i64 0, Value.slice none 0 0, Value.slice none 0 0, Value.slice none 0 0, Value.slice none 0 0] [(0, 1, (.tmp 38)), (1, 1, (.tmp 43))]), none⟩, []⟩,
    ⟨8, ⟨(some 7), .op (.alloc (Value.agg #[Value.int .i64 0, Value.int .i64 0, Value.slice none 0 0, Value.slice none 0 0, Value.slice none 0 0, Value.slice none 0 0])), none⟩, [1, 4, 5, 6]⟩,
    ⟨9, ⟨none, .op (.store 6 (.tmp 7) (.tmp 44)), none⟩, []⟩]
    [0, 1, 0, 0, 8, 28, 60, 127, 0, 511]) (.kill [37, 38, 39, 40, 41, 42, 43, 44]))
  (.seq (.seq (.reg [⟨(some 8), .op (.mv (.const (Value.int .i64 0))), none⟩])
  (.block 2 (.ghost (.ow 7 (some 2) 1) (.ghost (.ow 7 (some 3) 1) (.ghost (.ow 7 (some 4) 1) (.ghost (.ow 7 (some 5) 1) lo_spec_TrimChecker_3))))))
  (.ghost (.kill [1, 4, 5, 8]) (.seq (.post (.reg [⟨(some 164), .op (.load 6 true (.tmp 7)), none⟩,
    ⟨none, .op (.store 6 (.tmp 2) (.tmp 164)), none⟩,
    ⟨(some 3), .op (.mv (.const (Value.int .i64 0))), none⟩]) (.kill [7, 164]))
  .ret))))))))))
theorem cf_spec_TrimChecker : chkFn Try.prog i_spec_TrimChecker ac_spec_TrimChecker [.cell 2 6 true, .tmp 3] 165 = true := by decide +kernel
def fa_spec_TrimChecker : FnA := ⟨ac_spec_TrimChecker, [.cell 2 6 true, .tmp 3], 165, false, true, [(.agg [.any, .any, (.lst 1 .any), (.lst 1 (.lst 2 .any)), (.lst 1 (.lst 1 (.lst 1 .any))), (.lst 1 (.lst 1 .any))])], .any, none⟩

/-- The checked code of impl size bool . -/
def ac_impl_size_bool : AC := (.seq (.post (.reg [⟨(some 2), .op (.mv (.const (Value.int .i64 0))), none⟩]) (.kill [2]))
  (.seq (.post (.reg [⟨(some 3), .op (.mv (.tmp 0)), none⟩,
    ⟨(some 4), .op (.len false (.tmp 3)), none⟩,
    ⟨(some 2), .op (.mv (.tmp 4)), none⟩]) (.kill [0, 3, 4]))
  .ret))
theorem cf_impl_size_bool : chkFn Try.prog i_impl_size_bool ac_impl_size_bool [.tmp 2] 5 = true := by decide +kernel
def fa_impl_size_bool : FnA := ⟨ac_impl_size_bool, [.tmp 2], 5, false, true, [], .any, none⟩

/-- The checked code of impl within. -/
def ac_impl_within : AC := (.seq (.post (.reg [⟨(some 6), .op (.mv (.const (Value.bool false))), none⟩]) (.kill [6]))
  (.seq (.post (.reg [⟨(some 7), .op (.mv (.tmp 0)), none⟩,
    ⟨(some 8), .op (.mv (.tmp 1)), none⟩,
    ⟨(some 9), .op (.bin .geq (.tmp 7) (.tmp 8)), none⟩,
    ⟨(some 10), .op (.mv (.tmp 9)), none⟩,
    ⟨(some 11), .op (.mv (.tmp 0)), some (10, true)⟩,
    ⟨(some 12), .op (.mv (.tmp 2)), some (10, true)⟩,
    ⟨(some 13), .op (.bin .leq (.tmp 11) (.tmp 12)), some (10, true)⟩,
    ⟨(some 14), .op (.pick (.tmp 10) (.tmp 13) (.const (Value.bool false))), none⟩,
    ⟨(some 6), .op (.mv (.tmp 14)), none⟩]) (.kill [0, 1, 2, 7, 8, 9, 10, 11, 12, 13, 14]))
  .ret))
theorem cf_impl_within : chkFn Try.prog i_impl_within ac_impl_within [.tmp 6] 15 = true := by decide +kernel
def fa_impl_within : FnA := ⟨ac_impl_within, [.tmp 6], 15, false, true, [], .any, none⟩

/-- The checked code of impl Checker  isState. -/
def ac_impl_Checker_isState : AC := (.seq (.post (.reg [⟨(some 2), .op (.box true (.tmp 0)), none⟩,
    ⟨(some 4), .op (.mv (.const (Value.bool false))), none⟩]) (.kill [0, 4]))
  (.seq (.post (.reg [⟨(some 5), .op (.mv (.tmp 1)), none⟩,
    ⟨(some 6), .op (.faddr (.tmp 2) 2), none⟩,
    ⟨(some 7), .op (.load 1 false (.tmp 6)), none⟩,
    ⟨(some 8), .call (.func i_impl_size_bool) [(.tmp 7)], none⟩,
    ⟨(some 9), .op (.bin .sub (.tmp 8) (.const (Value.int .i64 1))), none⟩,
    ⟨(some 10), .call (.func i_impl_within) [(.tmp 5), (.const (Value.int .i64 0)), (.tmp 9)], none⟩,
    ⟨(some 4), .op (.mv (.tmp 10)), none⟩]) (.kill [1, 2, 5, 6, 7, 8, 9, 10]))
  .ret))
theorem cf_impl_Checker_isState : chkFn Try.prog i_impl_Checker_isState ac_impl_Checker_isState [.tmp 4] 11 = true := by decide +kernel
def fa_impl_Checker_isState : FnA := ⟨ac_impl_Checker_isState, [.tmp 4], 11, false, true, [], .any, none⟩

/-- The checked code of impl Push . -/
def ac_impl_size_L_impl_Push : AC := (.seq (.post (.reg [⟨(some 2), .op (.mv (.const (Value.int .i64 0))), none⟩]) (.kill [2]))
  (.seq (.post (.reg [⟨(some 3), .op (.mv (.tmp 0)), none⟩,
    ⟨(some 4), .op (.len false (.tmp 3)), none⟩,
    ⟨(some 2), .op (.mv (.tmp 4)), none⟩]) (.kill [0, 3, 4]))
  .ret))
theorem cf_impl_size_L_impl_Push : chkFn Try.prog i_impl_size_L_impl_Push ac_impl_size_L_impl_Push [.tmp 2] 5 = true := by decide +kernel
def fa_impl_size_L_impl_Push : FnA := ⟨ac_impl_size_L_impl_Push, [.tmp 2], 5, false, true, [], .any, none⟩

/-- The checked code of impl size     int64 . -/
def ac_impl_size_L_L_int64 : AC := (.seq (.post (.reg [⟨(some 2), .op (.mv (.const (Value.int .i64 0))), none⟩]) (.kill [2]))
  (.seq (.post (.reg [⟨(some 3), .op (.mv (.tmp 0)), none⟩,
    ⟨(some 4), .op (.len false (.tmp 3)), none⟩,
    ⟨(some 2), .op (.mv (.tmp 4)), none⟩]) (.kill [0, 3, 4]))
  .ret))
theorem cf_impl_size_L_L_int64 : chkFn Try.prog i_impl_size_L_L_int64 ac_impl_size_L_L_int64 [.tmp 2] 5 = true := by decide +kernel
def fa_impl_size_L_L_int64 : FnA := ⟨ac_impl_size_L_L_int64, [.tmp 2], 5, false, true, [], .any, none⟩

/-- The checked code of impl size   int64 . -/
def ac_impl_size_L_int64 : AC := (.seq (.post (.reg [⟨(some 2), .op (.mv (.const (Value.int .i64 0))), none⟩]) (.kill [2]))
  (.seq (.post (.reg [⟨(some 3), .op (.mv (.tmp 0)), none⟩,
    ⟨(some 4), .op (.len false (.tmp 3)), none⟩,
    ⟨(some 2), .op (.mv (.tmp 4)), none⟩]) (.kill [0, 3, 4]))
  .ret))
theorem cf_impl_size_L_int64 : chkFn Try.prog i_impl_size_L_int64 ac_impl_size_L_int64 [.tmp 2] 5 = true := by decide +kernel
def fa_impl_size_L_int64 : FnA := ⟨ac_impl_size_L_int64, [.tmp 2], 5, false, true, [], .any, none⟩

/-- The checked code of impl size int64 . -/
def ac_impl_size_int64 : AC := (.seq (.post (.reg [⟨(some 2), .op (.mv (.const (Value.int .i64 0))), none⟩]) (.kill [2]))
  (.seq (.post (.reg [⟨(some 3), .op (.mv (.tmp 0)), none⟩,
    ⟨(some 4), .op (.len false (.tmp 3)), none⟩,
    ⟨(some 2), .op (.mv (.tmp 4)), none⟩]) (.kill [0, 3, 4]))
  .ret))
theorem cf_impl_size_int64 : chkFn Try.prog i_impl_size_int64 ac_impl_size_int64 [.tmp 2] 5 = true := by decide +kernel
def fa_impl_size_int64 : FnA := ⟨ac_impl_size_int64, [.tmp 2], 5, false, true, [], .any, none⟩

/-- The checked code of slices IndexFunc   int64 int64 . -/
def lb_slices_IndexFunc_L_int64_0 : AC := (.seq (.reg [⟨(some 9), .op (.bin .lss (.tmp 8) (.tmp 7)), none⟩])
  (.seq (.cond (.tmp 9) (.ghost (.kill [9]) .skip)
  (.ghost (.kill [0, 1, 7, 8, 9]) (.exit 0)))
  (.seq (.block 1 (.seq (.post (.reg [⟨(some 10), .op (.mv (.tmp 8)), none⟩,
    ⟨(some 5), .op (.mv (.tmp 10)), none⟩]) (.kill [10]))
  (.seq (.post (.reg [⟨(some 11), .op (.mv (.tmp 1)), none⟩,
    ⟨(some 12), .op (.mv (.tmp 0)), none⟩,
    ⟨(some 13), .op (.mv (.tmp 5)), none⟩,
    ⟨(some 14), .op (.iaddrS (.tmp 12) (.tmp 13) 1), none⟩,
    ⟨(some 15), .op (.load 1 false (.tmp 14)), none⟩,
    ⟨(some 16), .call (.tmp 11) [(.tmp 15)], none⟩]) (.kill [11, 12, 13, 14, 15]))
  (.cond (.tmp 16) (.ghost (.kill [0, 1, 7, 8, 16]) (.seq (.post (.reg [⟨(some 17), .op (.mv (.tmp 5)), none⟩,
    ⟨(some 4), .op (.mv (.tmp 17)), none⟩]) (.kill [5, 17]))
  .ret))
  (.ghost (.kill [5, 16]) .skip)))))
  (.post (.reg [⟨(some 18), .op (.bin .add (.tmp 8) (.const (Value.int .i64 1))), none⟩,
    ⟨(some 8), .op (.mv (.tmp 18)), none⟩]) (.kill [18])))))
def lo_slices_IndexFunc_L_int64_0 : AC := (.loop lb_slices_IndexFunc_L_int64_0)
def ac_slices_IndexFunc_L_int64 : AC := (.seq (.post (.reg [⟨(some 4), .op (.mv (.const (Value.int .i64 0))), none⟩]) (.kill [4]))
  (.seq (.seq (.post (.reg [⟨(some 6), .op (.mv (.tmp 0)), none⟩,
    ⟨(some 7), .op (.len false (.tmp 6)), none⟩,
    ⟨(some 8), .op (.mv (.const (Value.int .i64 0))), none⟩]) (.kill [6]))
  (.block 0 lo_slices_IndexFunc_L_int64_0))
  (.ghost (.kill [0, 1, 7, 8]) (.seq (.reg [⟨(some 4), .op (.mv (.const (Value.int .i64 (-1)))), none⟩])
  .ret))))
theorem cf_slices_IndexFunc_L_int64 : chkFn Try.prog i_slices_IndexFunc_L_int64 ac_slices_IndexFunc_L_int64 [.tmp 4] 19 = true := by decide +kernel
def fa_slices_IndexFunc_L_int64 : FnA := ⟨ac_slices_IndexFunc_L_int64, [.tmp 4], 19, false, true, [], .any, none⟩

/-- The checked code of slices ContainsFunc   int64 int64 . -/
def ac_slices_ContainsFunc_L_int64 : AC := (.seq (.post (.reg [⟨(some 4), .op (.mv (.const (Value.bool false))), none⟩]) (.kill [4]))
  (.seq (.post (.reg [⟨(some 5), .op (.mv (.tmp 0)), none⟩,
    ⟨(some 6), .op (.mv (.tmp 1)), none⟩,
    ⟨(some 7), .call (.func i_slices_IndexFunc_L_int64) [(.tmp 5), (.tmp 6)], none⟩,
    ⟨(some 8), .op (.bin .geq (.tmp 7) (.const (Value.int .i64 0))), none⟩,
    ⟨(some 4), .op (.mv (.tmp 8)), none⟩]) (.kill [0, 1, 5, 6, 7, 8]))
  .ret))
theorem cf_slices_ContainsFunc_L_int64 : chkFn Try.prog i_slices_ContainsFunc_L_int64 ac_slices_ContainsFunc_L_int64 [.tmp 4] 9 = true := by decide +kernel
def fa_slices_ContainsFunc_L_int64 : FnA := ⟨ac_slices_ContainsFunc_L_int64, [.tmp 4], 9, false, true, [], .any, none⟩

/-- The checked code of impl ValidChecker 1 1. -/
def ac_impl_ValidChecker_1_1 : AC := (.seq (.post (.reg [⟨(some 3), .op (.mv (.const (Value.bool false))), none⟩]) (.kill [3]))
  (.seq (.post (.reg [⟨(some 4), .op (.load 6 true (.tmp 1)), none⟩,
    ⟨(some 5), .op (.mv (.tmp 0)), none⟩,
    ⟨(some 6), .call (.func i_impl_Checker_isState) [(.tmp 4), (.tmp 5)], none⟩,
    ⟨(some 7), .op (.un .not (.tmp 6)), none⟩,
    ⟨(some 3), .op (.mv (.tmp 7)), none⟩]) (.kill [0, 1, 4, 5, 6, 7]))
  .ret))
theorem cf_impl_ValidChecker_1_1 : chkFn Try.prog i_impl_ValidChecker_1_1 ac_impl_ValidChecker_1_1 [.tmp 3] 8 = true := by decide +kernel
def fa_impl_ValidChecker_1_1 : FnA := ⟨ac_impl_ValidChecker_1_1, [.tmp 3], 8, false, true, [], .any, none⟩

/-- The checked code of impl ValidChecker 1. -/
def ac_impl_ValidChecker_1 : AC := (.seq (.post (.reg [⟨(some 5), .op (.mv (.const (Value.bool false))), none⟩]) (.kill [5]))
  (.seq (.post (.reg [⟨(some 6), .op (.mv (.tmp 0)), none⟩,
    ⟨(some 7), .call (.func i_impl_size_int64) [(.tmp 6)], none⟩,
    ⟨(some 8), .op (.mv (.tmp 1)), none⟩,
    ⟨(some 9), .op (.bin .eql (.tmp 7) (.tmp 8)), none⟩,
    ⟨(some 10), .op (.mv (.tmp 9)), none⟩,
    ⟨(some 11), .op (.mv (.tmp 0)), some (10, true)⟩,
    ⟨(some 12), .op (.mkfn i_impl_ValidChecker_1_1 [(.tmp 2)]), some (10, true)⟩,
    ⟨(some 13), .call (.func i_slices_ContainsFunc_L_int64) [(.tmp 11), (.tmp 12)], some (10, true)⟩,
    ⟨(some 14), .op (.un .not (.tmp 13)), some (10, true)⟩,
    ⟨(some 15), .op (.pick (.tmp 10) (.tmp 14) (.const (Value.bool false))), none⟩,
    ⟨(some 5), .op (.mv (.tmp 15)), none⟩]) (.kill [0, 1, 2, 6, 7, 8, 9, 10, 11, 12, 13, 14, 15]))
  .ret))
theorem cf_impl_ValidChecker_1 : chkFn Try.prog i_impl_ValidChecker_1 ac_impl_ValidChecker_1 [.tmp 5] 16 = true := by decide +kernel
def fa_impl_ValidChecker_1 : FnA := ⟨ac_impl_ValidChecker_1, [.tmp 5], 16, false, true, [], .any, none⟩

/-- The checked code of impl Checker  isMark. -/
def ac_impl_Checker_isMark : AC := (.seq (.post (.reg [⟨(some 2), .op (.box true (.tmp 0)), none⟩,
    ⟨(some 4), .op (.mv (.const (Value.bool false))), none⟩]) (.kill [0, 4]))
  (.seq (.post (.reg [⟨(some 5), .op (.mv (.tmp 1)), none⟩,
    ⟨(some 6), .op (.faddr (.tmp 2) 0), none⟩,
    ⟨(some 7), .op (.load 1 false (.tmp 6)), none⟩,
    ⟨(some 8), .op (.bin .sub (.tmp 7) (.const (Value.int .i64 1))), none⟩,
    ⟨(some 9), .call (.func i_impl_within) [(.tmp 5), (.const (Value.int .i64 0)), (.tmp 8)], none⟩,
    ⟨(some 4), .op (.mv (.tmp 9)), none⟩]) (.kill [1, 2, 5, 6, 7, 8, 9]))
  .ret))
theorem cf_impl_Checker_isMark : chkFn Try.prog i_impl_Checker_isMark ac_impl_Checker_isMark [.tmp 4] 10 = true := by decide +kernel
def fa_impl_Checker_isMark : FnA := ⟨ac_impl_Checker_isMark, [.tmp 4], 10, false, true, [], .any, none⟩

/-- The checked code of impl ValidChecker. -/
def lb_impl_ValidChecker_0 : AC := (.post (.seq (.reg [⟨(some 80), .op (.bin .lss (.tmp 79) (.const (Value.int .i64 2))), none⟩])
  (.seq (.cond (.tmp 80) (.ghost (.kill [80]) .skip)
  (.ghost (.kill [5, 79, 80]) (.exit 2)))
  (.seq (.block 3 (.seq (.post (.reg [⟨(some 81), .op (.mv (.tmp 79)), none⟩,
    ⟨(some 6), .op (.mv (.tmp 81)), none⟩]) (.kill [81]))
  (.seq (.post (.reg [⟨(some 82), .op (.faddr (.tmp 1) 3), none⟩,
    ⟨(some 83), .op (.load 1 false (.tmp 82)), none⟩,
    ⟨(some 84), .op (.mv (.tmp 5)), none⟩,
    ⟨(some 85), .op (.iaddrS (.tmp 83) (.tmp 84) 1), none⟩,
    ⟨(some 86), .op (.load 1 false (.tmp 85)), none⟩,
    ⟨(some 87), .op (.mv (.tmp 6)), none⟩,
    ⟨(some 88), .op (.iaddrS (.tmp 86) (.tmp 87) 2), none⟩,
    ⟨(some 89), .op (.load 2 true (.tmp 88)), none⟩,
    ⟨(some 7), .op (.alloc (Value.agg #[Value.int .i64 0, Value.int .i64 0])), none⟩,
    ⟨none, .op (.store 2 (.tmp 7) (.tmp 89)), none⟩]) (.kill [82, 83, 84, 85, 86, 87, 88, 89]))
  (.seq (.post (.draw [⟨0, ⟨(some 90), .op (.load 6 true (.tmp 1)), none⟩, []⟩,
    ⟨1, ⟨(some 91), .op (.faddr (.tmp 7) 0), none⟩, []⟩,
    ⟨2, ⟨(some 92), .op (.load 1 false (.tmp 91)), none⟩, []⟩,
    ⟨3, ⟨(some 93), .call (.func i_impl_Checker_isState) [(.tmp 90), (.tmp 92)], none⟩, []⟩,
    ⟨4, ⟨(some 94), .op (.un .not (.tmp 93)), none⟩, []⟩,
    ⟨5, ⟨(some 95), .op (.mv (.tmp 94)), none⟩, []⟩,
    ⟨6, ⟨(some 96), .op (.load 6 true (.tmp 1)), some (95, false)⟩, []⟩,
    ⟨7, ⟨(some 97), .op (.faddr (.tmp 7) 1), some (95, false)⟩, []⟩,
    ⟨8, ⟨(some 98), .op (.load 1 false (.tmp 97)), some (95, false)⟩, []⟩,
    ⟨9, ⟨(some 99), .call (.func i_impl_Checker_isMark) [(.tmp 96), (.tmp 98)], some (95, false)⟩, []⟩,
    ⟨10, ⟨(some 100), .op (.un .not (.tmp 99)), some (95, false)⟩, []⟩,
    ⟨11, ⟨(some 101), .op (.pick (.tmp 95) (.const (Value.bool true)) (.tmp 100)), none⟩, []⟩,
    ⟨12, ⟨(some 102), .op (.mv (.tmp 101)), none⟩, []⟩,
    ⟨13, ⟨(some 103), .op (.mv (.tmp 4)), some (102, false)⟩, []⟩,
    ⟨14, ⟨(some 104), .op (.faddr (.tmp 1) 4), some (102, false)⟩, []⟩,
    ⟨15, ⟨(some 105), .op (.load 1 false (.tmp 104)), some (102, false)⟩, []⟩,
    ⟨16, ⟨(some 106), .op (.mv (.tmp 5)), some (102, false)⟩, []⟩,
    ⟨17, ⟨(some 107), .op (.iaddrS (.tmp 105) (.tmp 106) 1), some (102, false)⟩, []⟩,
    ⟨18, ⟨(some 108), .op (.load 1 false (.tmp 107)), some (102, false)⟩, []⟩,
    ⟨19, ⟨(some 109), .op (.mv (.tmp 6)), some (102, false)⟩, []⟩,
    ⟨20, ⟨(some 110), .op (.iaddrS (.tmp 108) (.tmp 109) 1), some (102, false)⟩, []⟩,
    ⟨21, ⟨(some 111), .op (.load 1 false (.tmp 110)), some (102, false)⟩, []⟩,
    ⟨22, ⟨(some 112), .op (.faddr (.tmp 1) 0), some (102, false)⟩, []⟩,
    ⟨23, ⟨(some 113), .op (.load 1 false (.tmp 112)), some (102, false)⟩, []⟩,
    ⟨24, ⟨(some 114), .op (.bin .add (.tmp 113) (.const (Value.int .i64 1))), some (102, false)⟩, []⟩,
    ⟨25, ⟨(some 115), .call (.tmp 103) [(.tmp 111), (.tmp 114)], some (102, false)⟩, []⟩,
    ⟨26, ⟨(some 116), .op (.un .not (.tmp 115)), some (102, false)⟩, []⟩,
    ⟨27, ⟨(some 117), .op (.pick (.tmp 102) (.const (Value.bool true)) (.tmp 116)), none⟩, []⟩]
    [0, 0, 2, 7, 15, 31, 63, 63, 191, 511, 1023, 2047, 4095, 8191, 8191, 24575, 8191, 122879, 253951, 8191, 1040383, 2088959, 8191, 4202495, 12591103, 33554431, 67108863, 134217727]) (.kill [6, 7, 90, 91, 92, 93, 94, 95, 96, 97, 98, 99, 100, 101, 102, 103, 104, 105, 106, 107, 108, 109, 110, 111, 112, 113, 114, 115, 116]))
  (.cond (.tmp 117) (.ghost (.kill [1, 4, 5, 49, 50, 79, 117]) (.seq (.reg [⟨(some 2), .op (.mv (.const (Value.bool false))), none⟩])
  .ret))
  (.ghost (.kill [117]) .skip))))))
  (.post (.reg [⟨(some 118), .op (.bin .add (.tmp 79) (.const (Value.int .i64 1))), none⟩,
    ⟨(some 79), .op (.mv (.tmp 118)), none⟩]) (.kill [118]))))) .nv)
def lo_impl_ValidChecker_0 : AC := (.loop lb_impl_ValidChecker_0)
def lb_impl_ValidChecker_1 : AC := (.post (.seq (.reg [⟨(some 51), .op (.bin .lss (.tmp 50) (.tmp 49)), none⟩])
  (.seq (.cond (.tmp 51) (.ghost (.kill [51]) .skip)
  (.ghost (.kill [1, 4, 49, 50, 51]) (.exit 0)))
  (.seq (.block 1 (.seq (.post (.reg [⟨(some 52), .op (.mv (.tmp 50)), none⟩,
    ⟨(some 5), .op (.mv (.tmp 52)), none⟩]) (.kill [52]))
  (.seq (.seq (.post (.reg [⟨(some 53), .op (.faddr (.tmp 1) 3), none⟩,
    ⟨(some 54), .op (.load 1 false (.tmp 53)), none⟩,
    ⟨(some 55), .op (.mv (.tmp 5)), none⟩,
    ⟨(some 56), .op (.iaddrS (.tmp 54) (.tmp 55) 1), none⟩,
    ⟨(some 57), .op (.load 1 false (.tmp 56)), none⟩,
    ⟨(some 58), .op (.len false (.tmp 57)), none⟩,
    ⟨(some 59), .op (.bin .neq (.tmp 58) (.const (Value.int .i64 2))), none⟩,
    ⟨(some 60), .op (.mv (.tmp 59)), none⟩,
    ⟨(some 61), .op (.faddr (.tmp 1) 4), some (60, false)⟩,
    ⟨(some 62), .op (.load 1 false (.tmp 61)), some (60, false)⟩,
    ⟨(some 63), .op (.mv (.tmp 5)), some (60, false)⟩,
    ⟨(some 64), .op (.iaddrS (.tmp 62) (.tmp 63) 1), some (60, false)⟩,
    ⟨(some 65), .op (.load 1 false (.tmp 64)), some (60, false)⟩,
    ⟨(some 66), .op (.len false (.tmp 65)), some (60, false)⟩,
    ⟨(some 67), .op (.bin .neq (.tmp 66) (.const (Value.int .i64 2))), some (60, false)⟩,
    ⟨(some 68), .op (.pick (.tmp 60) (.const (Value.bool true)) (.tmp 67)), none⟩,
    ⟨(some 69), .op (.mv (.tmp 68)), none⟩,
    ⟨(some 70), .op (.mv (.tmp 4)), some (69, false)⟩,
    ⟨(some 71), .op (.faddr (.tmp 1) 5), some (69, false)⟩,
    ⟨(some 72), .op (.load 1 false (.tmp 71)), some (69, false)⟩,
    ⟨(some 73), .op (.mv (.tmp 5)), some (69, false)⟩,
    ⟨(some 74), .op (.iaddrS (.tmp 72) (.tmp 73) 1), some (69, false)⟩,
    ⟨(some 75), .op (.load 1 false (.tmp 74)), some (69, false)⟩,
    ⟨(some 76), .call (.tmp 70) [(.tmp 75), (.const (Value.int .i64 2))], some (69, false)⟩,
    ⟨(some 77), .op (.un .not (.tmp 76)), some (69, false)⟩,
    ⟨(some 78), .op (.pick (.tmp 69) (.const (Value.bool true)) (.tmp 77)), none⟩]) (.kill [53, 54, 55, 56, 57, 58, 59, 60, 61, 62, 63, 64, 65, 66, 67, 68, 69, 70, 71, 72, 73, 74, 75, 76, 77]))
  (.cond (.tmp 78) (.ghost (.kill [1, 4, 5, 49, 50, 78]) (.seq (.reg [⟨(some 2), .op (.mv (.const (Value.bool false))), none⟩])
  .ret))
  (.ghost (.kill [78]) .skip)))
  (.seq (.reg [⟨(some 79), .op (.mv (.const (Value.int .i64 0))), none⟩])
  (.post (.block 2 (.ghost .nv lo_impl_ValidChecker_0)) .nv)))))
  (.ghost (.kill [5, 79]) (.post (.reg [⟨(some 119), .op (.bin .add (.tmp 50) (.const (Value.int .i64 1))), none⟩,
    ⟨(some 50), .op (.mv (.tmp 119)), none⟩]) (.kill [119])))))) .nv)
def lo_impl_ValidChecker_1 : AC := (.loop lb_impl_ValidChecker_1)
def ac_impl_ValidChecker : AC := (.seq (.post (.reg [⟨(some 1), .op (.box true (.tmp 0)), none⟩,
    ⟨(some 2), .op (.mv (.const (Value.bool false))), none⟩]) (.kill [0, 2]))
  (.seq (.post (.reg [⟨(some 8), .op (.faddr (.tmp 1) 2), none⟩,
    ⟨(some 9), .op (.load 1 false (.tmp 8)), none⟩,
    ⟨(some 10), .call (.func i_impl_size_bool) [(.tmp 9)], none⟩,
    ⟨(some 3), .op (.mv (.tmp 10)), none⟩]) (.kill [8, 9, 10]))
  (.seq (.seq (.post (.reg [⟨(some 11), .op (.mv (.tmp 3)), none⟩,
    ⟨(some 12), .call (.func i_impl_within) [(.tmp 11), (.const (Value.int .i64 1)), (.const (Value.int .i64 40))], none⟩,
    ⟨(some 13), .op (.un .not (.tmp 12)), none⟩,
    ⟨(some 14), .op (.mv (.tmp 13)), none⟩,
    ⟨(some 15), .op (.faddr (.tmp 1) 0), some (14, false)⟩,
    ⟨(some 16), .op (.load 1 false (.tmp 15)), some (14, false)⟩,
    ⟨(some 17), .call (.func i_impl_within) [(.tmp 16), (.const (Value.int .i64 1)), (.const (Value.int .i64 80))], some (14, false)⟩,
    ⟨(some 18), .op (.un .not (.tmp 17)), some (14, false)⟩,
    ⟨(some 19), .op (.pick (.tmp 14) (.const (Value.bool true)) (.tmp 18)), none⟩,
    ⟨(some 20), .op (.mv (.tmp 19)), none⟩,
    ⟨(some 21), .op (.load 6 true (.tmp 1)), some (20, false)⟩,
    ⟨(some 22), .op (.faddr (.tmp 1) 1), some (20, false)⟩,
    ⟨(some 23), .op (.load 1 false (.tmp 22)), some (20, false)⟩,
    ⟨(some 24), .call (.func i_impl_Checker_isState) [(.tmp 21), (.tmp 23)], some (20, false)⟩,
    ⟨(some 25), .op (.un .not (.tmp 24)), some (20, false)⟩,
    ⟨(some 26), .op (.pick (.tmp 20) (.const (Value.bool true)) (.tmp 25)), none⟩,
    ⟨(some 27), .op (.mv (.tmp 26)), none⟩,
    ⟨(some 28), .op (.faddr (.tmp 1) 3), some (27, false)⟩,
    ⟨(some 29), .op (.load 1 false (.tmp 28)), some (27, false)⟩,
    ⟨(some 30), .call (.func i_impl_size_L_impl_Push) [(.tmp 29)], some (27, false)⟩,
    ⟨(some 31), .op (.mv (.tmp 3)), some (27, false)⟩,
    ⟨(some 32), .op (.bin .neq (.tmp 30) (.tmp 31)), some (27, false)⟩,
    ⟨(some 33), .op (.pick (.tmp 27) (.const (Value.bool true)) (.tmp 32)), none⟩,
    ⟨(some 34), .op (.mv (.tmp 33)), none⟩,
    ⟨(some 35), .op (.faddr (.tmp 1) 4), some (34, false)⟩,
    ⟨(some 36), .op (.load 1 false (.tmp 35)), some (34, false)⟩,
    ⟨(some 37), .call (.func i_impl_size_L_L_int64) [(.tmp 36)], some (34, false)⟩,
    ⟨(some 38), .op (.mv (.tmp 3)), some (34, false)⟩,
    ⟨(some 39), .op (.bin .neq (.tmp 37) (.tmp 38)), some (34, false)⟩,
    ⟨(some 40), .op (.pick (.tmp 34) (.const (Value.bool true)) (.tmp 39)), none⟩,
    ⟨(some 41), .op (.mv (.tmp 40)), none⟩,
    ⟨(some 42), .op (.faddr (.tmp 1) 5), some (41, false)⟩,
    ⟨(some 43), .op (.load 1 false (.tmp 42)), some (41, false)⟩,
    ⟨(some 44), .call (.func i_impl_size_L_int64) [(.tmp 43)], some (41, false)⟩,
    ⟨(some 45), .op (.mv (.tmp 3)), some (41, false)⟩,
    ⟨(some 46), .op (.bin .neq (.tmp 44) (.tmp 45)), some (41, false)⟩,
    ⟨(some 47), .op (.pick (.tmp 41) (.const (Value.bool true)) (.tmp 46)), none⟩]) (.kill [11, 12, 13, 14, 15, 16, 17, 18, 19, 20, 21, 22, 23, 24, 25, 26, 27, 28, 29, 30, 31, 32, 33, 34, 35, 36, 37, 38, 39, 40, 41, 42, 43, 44, 45, 46]))
  (.cond (.tmp 47) (.ghost (.kill [1, 3, 47]) (.seq (.reg [⟨(some 2), .op (.mv (.const (Value.bool false))), none⟩])
  .ret))
  (.ghost (.kill [47]) .skip)))
  (.seq (.post (.reg [⟨(some 48), .op (.mkfn i_impl_ValidChecker_1 [(.tmp 1)]), none⟩,
    ⟨(some 4), .op (.mv (.tmp 48)), none⟩]) (.kill [48]))
  (.seq (.seq (.post (.reg [⟨(some 49), .op (.mv (.tmp 3)), none⟩,
    ⟨(some 50), .op (.mv (.const (Value.int .i64 0))), none⟩]) (.kill [3]))
  (.post (.block 0 (.ghost .nv lo_impl_ValidChecker_1)) .nv))
  (.ghost (.kill [1, 4, 49, 50]) (.seq (.reg [⟨(some 2), .op (.mv (.const (Value.bool true))), none⟩])
  .ret)))))))
theorem cf_impl_ValidChecker : chkFn Try.prog i_impl_ValidChecker ac_impl_ValidChecker [.tmp 2] 120 = true := by decide +kernel
def fa_impl_ValidChecker : FnA := ⟨ac_impl_ValidChecker, [.tmp 2], 120, false, true, [], .any, none⟩

/-- The checked code of slices Grow   int64 int64 . -/
def ac_slices_Grow_L_int64 : AC := (.seq (.post (.reg [⟨(some 4), .op (.mv (.const (Value.slice none 0 0))), none⟩]) (.kill [4]))
  (.seq (.seq (.post (.reg [⟨(some 5), .op (.mv (.tmp 1)), none⟩,
    ⟨(some 6), .op (.bin .lss (.tmp 5) (.const (Value.int .i64 0))), none⟩]) (.kill [5]))
  (.cond (.tmp 6) (.ghost (.kill [6]) (.post (.reg [⟨(some 7), .op (.bad), none⟩,
    ⟨none, .op (.bad), none⟩]) (.kill [7])))
  (.ghost (.kill [6]) .skip)))
  (.seq (.seq (.post (.reg [⟨(some 8), .op (.mv (.tmp 1)), none⟩,
    ⟨(some 9), .op (.mv (.tmp 0)), none⟩,
    ⟨(some 10), .op (.cap (.tmp 9)), none⟩,
    ⟨(some 11), .op (.mv (.tmp 0)), none⟩,
    ⟨(some 12), .op (.len false (.tmp 11)), none⟩,
    ⟨(some 13), .op (.bin .sub (.tmp 10) (.tmp 12)), none⟩,
    ⟨(some 14), .op (.bin .sub (.tmp 8) (.tmp 13)), none⟩,
    ⟨(some 1), .op (.mv (.tmp 14)), none⟩]) (.kill [8, 9, 10, 11, 12, 13, 14]))
  (.seq (.post (.reg [⟨(some 15), .op (.mv (.tmp 1)), none⟩,
    ⟨(some 16), .op (.bin .gtr (.tmp 15) (.const (Value.int .i64 0))), none⟩]) (.kill [15]))
  (.cond (.tmp 16) (.ghost (.kill [16]) (.post (.post (.reg [⟨(some 17), .op (.mv (.tmp 0)), none⟩,
    ⟨(some 18), .op (.mv (.tmp 0)), none⟩,
    ⟨(some 19), .op (.cap (.tmp 18)), none⟩,
    ⟨(some 20), .op (.slcS (.tmp 17) none (some (.tmp 19)) none 1), none⟩,
    ⟨(some 21), .op (.mv (.tmp 1)), none⟩,
    ⟨(some 22), .op (.appz (.tmp 20) (.tmp 21) 1 8), none⟩,
    ⟨(some 23), .op (.mv (.tmp 0)), none⟩,
    ⟨(some 24), .op (.len false (.tmp 23)), none⟩,
    ⟨(some 25), .op (.slcS (.tmp 22) none (some (.tmp 24)) none 1), none⟩,
    ⟨(some 0), .op (.mv (.tmp 25)), none⟩]) (.kill [1, 17, 18, 19, 20, 21, 22, 23, 24, 25])) .nv))
  (.ghost (.kill [1, 16]) .skip))))
  (.seq (.post (.reg [⟨(some 26), .op (.mv (.tmp 0)), none⟩,
    ⟨(some 4), .op (.mv (.tmp 26)), none⟩]) (.kill [0, 26]))
  .ret))))
theorem cf_slices_Grow_L_int64 : chkFn Try.prog i_slices_Grow_L_int64 ac_slices_Grow_L_int64 [.tmp 4] 27 = true := by decide +kernel
def fa_slices_Grow_L_int64 : FnA := ⟨ac_slices_Grow_L_int64, [.tmp 4], 27, false, false, [], .any, none⟩

/-- The checked code of slices Concat   int64 int64 . -/
def lb_slices_Concat_L_int64_0 : AC := (.post (.seq (.reg [⟨(some 12), .op (.bin .lss (.tmp 11) (.tmp 10)), none⟩])
  (.seq (.cond (.tmp 12) (.ghost (.kill [12]) .skip)
  (.ghost (.kill [9, 10, 11, 12]) (.exit 0)))
  (.seq (.block 1 (.seq (.post (.reg [⟨(some 13), .op (.iaddrS (.tmp 9) (.tmp 11) 1), none⟩,
    ⟨(some 14), .op (.load 1 false (.tmp 13)), none⟩,
    ⟨(some 5), .op (.mv (.tmp 14)), none⟩]) (.kill [13, 14]))
  (.seq (.post (.reg [⟨(some 15), .op (.mv (.tmp 3)), none⟩,
    ⟨(some 16), .op (.mv (.tmp 5)), none⟩,
    ⟨(some 17), .op (.len false (.tmp 16)), none⟩,
    ⟨(some 18), .op (.bin .add (.tmp 15) (.tmp 17)), none⟩,
    ⟨(some 3), .op (.mv (.tmp 18)), none⟩]) (.kill [5, 15, 16, 17, 18]))
  (.seq (.post (.reg [⟨(some 19), .op (.mv (.tmp 3)), none⟩,
    ⟨(some 20), .op (.bin .lss (.tmp 19) (.const (Value.int .i64 0))), none⟩]) (.kill [19]))
  (.cond (.tmp 20) (.ghost (.kill [20]) (.post (.reg [⟨(some 21), .op (.bad), none⟩,
    ⟨none, .op (.bad), none⟩]) (.kill [21])))
  (.ghost (.kill [20]) .skip))))))
  (.post (.reg [⟨(some 22), .op (.bin .add (.tmp 11) (.const (Value.int .i64 1))), none⟩,
    ⟨(some 11), .op (.mv (.tmp 22)), none⟩]) (.kill [22]))))) .nv)
def lo_slices_Concat_L_int64_0 : AC := (.loop lb_slices_Concat_L_int64_0)
def lb_slices_Concat_L_int64_1 : AC := (.post (.seq (.reg [⟨(some 28), .op (.bin .lss (.tmp 27) (.tmp 26)), none⟩])
  (.seq (.cond (.tmp 28) (.ghost (.kill [28]) .skip)
  (.ghost (.kill [25, 26, 27, 28]) (.exit 2)))
  (.seq (.block 3 (.seq (.post (.reg [⟨(some 29), .op (.iaddrS (.tmp 25) (.tmp 27) 1), none⟩,
    ⟨(some 30), .op (.load 1 false (.tmp 29)), none⟩,
    ⟨(some 8), .op (.mv (.tmp 30)), none⟩]) (.kill [29, 30]))
  (.post (.post (.reg [⟨(some 31), .op (.mv (.tmp 6)), none⟩,
    ⟨(some 32), .op (.mv (.tmp 8)), none⟩,
    ⟨(some 33), .op (.append (.tmp 31) (.tmp 32) 1 8), none⟩,
    ⟨(some 6), .op (.mv (.tmp 33)), none⟩]) (.kill [8, 31, 32, 33])) .nv)))
  (.post (.reg [⟨(some 34), .op (.bin .add (.tmp 27) (.const (Value.int .i64 1))), none⟩,
    ⟨(some 27), .op (.mv (.tmp 34)), none⟩]) (.kill [34]))))) .nv)
def lo_slices_Concat_L_int64_1 : AC := (.loop lb_slices_Concat_L_int64_1)
def ac_slices_Concat_L_int64 : AC := (.seq (.post (.reg [⟨(some 2), .op (.mv (.const (Value.slice none 0 0))), none⟩]) (.kill [2]))
  (.seq (.reg [⟨(some 3), .op (.mv (.const (Value.int .i64 0))), none⟩])
  (.seq (.seq (.reg [⟨(some 9), .op (.mv (.tmp 0)), none⟩,
    ⟨(some 10), .op (.len false (.tmp 9)), none⟩,
    ⟨(some 11), .op (.mv (.const (Value.int .i64 0))), none⟩])
  (.post (.block 0 (.ghost .nv lo_slices_Concat_L_int64_0)) .nv))
  (.ghost (.kill [9, 10, 11]) (.seq (.post (.reg [⟨(some 23), .op (.mv (.tmp 3)), none⟩,
    ⟨(some 24), .call (.func i_slices_Grow_L_int64) [(.const (Value.slice none 0 0)), (.tmp 23)], none⟩,
    ⟨(some 6), .op (.mv (.tmp 24)), none⟩]) (.kill [3, 23, 24]))
  (.seq (.seq (.post (.reg [⟨(some 25), .op (.mv (.tmp 0)), none⟩,
    ⟨(some 26), .op (.len false (.tmp 25)), none⟩,
    ⟨(some 27), .op (.mv (.const (Value.int .i64 0))), none⟩]) (.kill [0]))
  (.post (.block 2 (.ghost (.ow 6 none 1) (.ghost .nv lo_slices_Concat_L_int64_1))) .nv))
  (.ghost (.kill [25, 26, 27]) (.seq (.post (.reg [⟨(some 35), .op (.mv (.tmp 6)), none⟩,
    ⟨(some 2), .op (.mv (.tmp 35)), none⟩]) (.kill [6, 35]))
  .ret))))))))
theorem cf_slices_Concat_L_int64 : chkFn Try.prog i_slices_Concat_L_int64 ac_slices_Concat_L_int64 [.tmp 2] 36 = true := by decide +kernel
def fa_slices_Concat_L_int64 : FnA := ⟨ac_slices_Concat_L_int64, [.tmp 2], 36, false, true, [], .any, none⟩

/-- The checked code of slices Index   int64 int64 . -/
def lb_slices_Index_L_int64_0 : AC := (.seq (.reg [⟨(some 9), .op (.bin .lss (.tmp 8) (.tmp 7)), none⟩])
  (.seq (.cond (.tmp 9) (.ghost (.kill [9]) .skip)
  (.ghost (.kill [0, 1, 7, 8, 9]) (.exit 0)))
  (.seq (.block 1 (.seq (.post (.reg [⟨(some 10), .op (.mv (.tmp 8)), none⟩,
    ⟨(some 5), .op (.mv (.tmp 10)), none⟩]) (.kill [10]))
  (.seq (.post (.reg [⟨(some 11), .op (.mv (.tmp 1)), none⟩,
    ⟨(some 12), .op (.mv (.tmp 0)), none⟩,
    ⟨(some 13), .op (.mv (.tmp 5)), none⟩,
    ⟨(some 14), .op (.iaddrS (.tmp 12) (.tmp 13) 1), none⟩,
    ⟨(some 15), .op (.load 1 false (.tmp 14)), none⟩,
    ⟨(some 16), .op (.bin .eql (.tmp 11) (.tmp 15)), none⟩]) (.kill [11, 12, 13, 14, 15]))
  (.cond (.tmp 16) (.ghost (.kill [0, 1, 7, 8, 16]) (.seq (.post (.reg [⟨(some 17), .op (.mv (.tmp 5)), none⟩,
    ⟨(some 4), .op (.mv (.tmp 17)), none⟩]) (.kill [5, 17]))
  .ret))
  (.ghost (.kill [5, 16]) .skip)))))
  (.post (.reg [⟨(some 18), .op (.bin .add (.tmp 8) (.const (Value.int .i64 1))), none⟩,
    ⟨(some 8), .op (.mv (.tmp 18)), none⟩]) (.kill [18])))))
def lo_slices_Index_L_int64_0 : AC := (.loop lb_slices_Index_L_int64_0)
def ac_slices_Index_L_int64 : AC := (.seq (.post (.reg [⟨(some 4), .op (.mv (.const (Value.int .i64 0))), none⟩]) (.kill [4]))
  (.seq (.seq (.post (.reg [⟨(some 6), .op (.mv (.tmp 0)), none⟩,
    ⟨(some 7), .op (.len false (.tmp 6)), none⟩,
    ⟨(some 8), .op (.mv (.const (Value.int .i64 0))), none⟩]) (.kill [6]))
  (.block 0 lo_slices_Index_L_int64_0))
  (.ghost (.kill [0, 1, 7, 8]) (.seq (.reg [⟨(some 4), .op (.mv (.const (Value.int .i64 (-1)))), none⟩])
  .ret))))
theorem cf_slices_Index_L_int64 : chkFn Try.prog i_slices_Index_L_int64 ac_slices_Index_L_int64 [.tmp 4] 19 = true := by decide +kernel
def fa_slices_Index_L_int64 : FnA := ⟨ac_slices_Index_L_int64, [.tmp 4], 19, false, true, [], .any, none⟩

/-- The checked code of slices Contains   int64 int64 . -/
def ac_slices_Contains_L_int64 : AC := (.seq (.post (.reg [⟨(some 4), .op (.mv (.const (Value.bool false))), none⟩]) (.kill [4]))
  (.seq (.post (.reg [⟨(some 5), .op (.mv (.tmp 0)), none⟩,
    ⟨(some 6), .op (.mv (.tmp 1)), none⟩,
    ⟨(some 7), .call (.func i_slices_Index_L_int64) [(.tmp 5), (.tmp 6)], none⟩,
    ⟨(some 8), .op (.bin .geq (.tmp 7) (.const (Value.int .i64 0))), none⟩,
    ⟨(some 4), .op (.mv (.tmp 8)), none⟩]) (.kill [0, 1, 5, 6, 7, 8]))
  .ret))
theorem cf_slices_Contains_L_int64 : chkFn Try.prog i_slices_Contains_L_int64 ac_slices_Contains_L_int64 [.tmp 4] 9 = true := by decide +kernel
def fa_slices_Contains_L_int64 : FnA := ⟨ac_slices_Contains_L_int64, [.tmp 4], 9, false, true, [], .any, none⟩

/-- The checked code of impl Checker  used. -/
def lb_impl_Checker_used_0 : AC := (.post (.seq (.reg [⟨(some 63), .op (.bin .lss (.tmp 62) (.tmp 61)), none⟩])
  (.seq (.cond (.tmp 63) (.ghost (.kill [63]) .skip)
  (.ghost (.kill [60, 61, 62, 63]) (.exit 2)))
  (.seq (.block 3 (.seq (.post (.reg [⟨(some 64), .op (.iaddrS (.tmp 60) (.tmp 62) 1), none⟩,
    ⟨(some 65), .op (.load 1 false (.tmp 64)), none⟩,
    ⟨(some 8), .op (.mv (.tmp 65)), none⟩]) (.kill [64, 65]))
  (.seq (.post (.reg [⟨(some 66), .op (.mv (.tmp 3)), none⟩,
    ⟨(some 67), .op (.mv (.tmp 8)), none⟩,
    ⟨(some 68), .call (.func i_slices_Contains_L_int64) [(.tmp 66), (.tmp 67)], none⟩,
    ⟨(some 69), .op (.un .not (.tmp 68)), none⟩]) (.kill [66, 67, 68]))
  (.cond (.tmp 69) (.ghost (.kill [69]) (.post (.post (.reg [⟨(some 70), .op (.mv (.tmp 3)), none⟩,
    ⟨(some 71), .op (.mv (.tmp 8)), none⟩,
    ⟨(some 72), .op (.lits true 1 1 (Value.int .i64 0) [(0, (.tmp 71))]), none⟩,
    ⟨(some 73), .op (.append (.tmp 70) (.tmp 72) 1 8), none⟩,
    ⟨(some 3), .op (.mv (.tmp 73)), none⟩]) (.kill [8, 70, 71, 72, 73])) .nv))
  (.ghost (.kill [8, 69]) .skip)))))
  (.post (.reg [⟨(some 74), .op (.bin .add (.tmp 62) (.const (Value.int .i64 1))), none⟩,
    ⟨(some 62), .op (.mv (.tmp 74)), none⟩]) (.kill [74]))))) .nv)
def lo_impl_Checker_used_0 : AC := (.loop lb_impl_Checker_used_0)
def lb_impl_Checker_used_1 : AC := (.post (.seq (.seq (.post (.reg [⟨(some 12), .op (.mv (.tmp 4)), none⟩,
    ⟨(some 13), .op (.mv (.tmp 3)), none⟩,
    ⟨(some 14), .op (.len false (.tmp 13)), none⟩,
    ⟨(some 15), .op (.bin .lss (.tmp 12) (.tmp 14)), none⟩]) (.kill [12, 13, 14]))
  (.cond (.tmp 15) (.ghost (.kill [15]) .skip)
  (.ghost (.kill [1, 4, 15]) (.exit 0))))
  (.seq (.block 1 (.seq (.post (.reg [⟨(some 18), .op (.mv (.tmp 3)), none⟩,
    ⟨(some 19), .op (.mv (.tmp 4)), none⟩,
    ⟨(some 20), .op (.iaddrS (.tmp 18) (.tmp 19) 1), none⟩,
    ⟨(some 21), .op (.load 1 false (.tmp 20)), none⟩,
    ⟨(some 5), .op (.mv (.tmp 21)), none⟩]) (.kill [18, 19, 20, 21]))
  (.seq (.post (.draw [⟨0, ⟨(some 22), .op (.faddr (.tmp 1) 4), none⟩, []⟩,
    ⟨1, ⟨(some 23), .op (.load 1 false (.tmp 22)), none⟩, []⟩,
    ⟨2, ⟨(some 24), .op (.mv (.tmp 5)), none⟩, []⟩,
    ⟨3, ⟨(some 25), .op (.iaddrS (.tmp 23) (.tmp 24) 1), none⟩, []⟩,
    ⟨4, ⟨(some 26), .op (.load 1 false (.tmp 25)), none⟩, []⟩,
    ⟨5, ⟨(some 27), .op (.iaddrS (.tmp 26) (.const (Value.int .i64 0)) 1), none⟩, []⟩,
    ⟨6, ⟨(some 28), .op (.load 1 false (.tmp 27)), none⟩, []⟩,
    ⟨7, ⟨(some 29), .op (.faddr (.tmp 1) 4), none⟩, []⟩,
    ⟨8, ⟨(some 30), .op (.load 1 false (.tmp 29)), none⟩, []⟩,
    ⟨9, ⟨(some 31), .op (.mv (.tmp 5)), none⟩, []⟩,
    ⟨10, ⟨(some 32), .op (.iaddrS (.tmp 30) (.tmp 31) 1), none⟩, []⟩,
    ⟨11, ⟨(some 33), .op (.load 1 false (.tmp 32)), none⟩, []⟩,
    ⟨12, ⟨(some 34), .op (.iaddrS (.tmp 33) (.const (Value.int .i64 1)) 1), none⟩, []⟩,
    ⟨13, ⟨(some 35), .op (.load 1 false (.tmp 34)), none⟩, []⟩,
    ⟨14, ⟨(some 36), .op (.faddr (.tmp 1) 5), none⟩, []⟩,
    ⟨15, ⟨(some 37), .op (.load 1 false (.tmp 36)), none⟩, []⟩,
    ⟨16, ⟨(some 38), .op (.mv (.tmp 5)), none⟩, []⟩,
    ⟨17, ⟨(some 39), .op (.iaddrS (.tmp 37) (.tmp 38) 1), none⟩, []⟩,
    ⟨18, ⟨(some 40), .op (.load 1 false (.tmp 39)), none⟩, []⟩,
    ⟨19, ⟨(some 41), .op (.faddr (.tmp 1) 3), none⟩, []⟩,
    ⟨20, ⟨(some 42), .op (.load 1 false (.tmp 41)), none⟩, []⟩,
    ⟨21, ⟨(some 43), .op (.mv (.tmp 5)), none⟩, []⟩,
    ⟨22, ⟨(some 44), .op (.iaddrS (.tmp 42) (.tmp 43) 1), none⟩, []⟩,
    ⟨23, ⟨(some 45), .op (.load 1 false (.tmp 44)), none⟩, []⟩,
    ⟨24, ⟨(some 46), .op (.iaddrS (.tmp 45) (.const (Value.int .i64 0)) 2), none⟩, []⟩,
    ⟨25, ⟨(some 47), .op (.faddr (.tmp 46) 0), none⟩, []⟩,
    ⟨26, ⟨(some 48), .op (.load 1 false (.tmp 47)), none⟩, []⟩,
    ⟨27, ⟨(some 49), .op (.faddr (.tmp 1) 3), none⟩, []⟩,
    ⟨28, ⟨(some 50), .op (.load 1 false (.tmp 49)), none⟩, []⟩,
    ⟨29, ⟨(some 51), .op (.mv (.tmp 5)), none⟩, []⟩,
    ⟨30, ⟨(some 52), .op (.iaddrS (.tmp 50) (.tmp 51) 1), none⟩, []⟩,
    ⟨31, ⟨(some 53), .op (.load 1 false (.tmp 52)), none⟩, []⟩,
    ⟨32, ⟨(some 54), .op (.iaddrS (.tmp 53) (.const (Value.int .i64 1)) 2), none⟩, []⟩,
    ⟨33, ⟨(some 55), .op (.faddr (.tmp 54) 0), none⟩, []⟩,
    ⟨34, ⟨(some 56), .op (.load 1 false (.tmp 55)), none⟩, []⟩,
    ⟨35, ⟨(some 57), .op (.lits true 1 2 (Value.int .i64 0) [(0, (.tmp 48)), (1, (.tmp 56))]), none⟩, []⟩,
    ⟨36, ⟨(some 58), .op (.lits true 1 4 (Value.slice none 0 0) [(0, (.tmp 28)), (1, (.tmp 35)), (2, (.tmp 40)), (3, (.tmp 57))]), none⟩, []⟩,
    ⟨37, ⟨(some 59), .call (.func i_slices_Concat_L_int64) [(.tmp 58)], none⟩, []⟩,
    ⟨38, ⟨(some 6), .op (.mv (.tmp 59)), none⟩, []⟩]
    [0, 1, 0, 7, 15, 31, 63, 0, 128, 0, 896, 1920, 3968, 8064, 0, 16384, 0, 114688, 245760, 0, 524288, 0, 3670016, 7864320, 16252928, 33030144, 66584576, 0, 134217728, 0, 939524096, 2013265920, 4160749568, 8455716864, 17045651456, 34359214080, 68719476735, 137438953471, 274877906943]) (.kill [5, 22, 23, 24, 25, 26, 27, 28, 29, 30, 31, 32, 33, 34, 35, 36, 37, 38, 39, 40, 41, 42, 43, 44, 45, 46, 47, 48, 49, 50, 51, 52, 53, 54, 55, 56, 57, 58, 59]))
  (.seq (.post (.reg [⟨(some 60), .op (.mv (.tmp 6)), none⟩,
    ⟨(some 61), .op (.len false (.tmp 60)), none⟩,
    ⟨(some 62), .op (.mv (.const (Value.int .i64 0))), none⟩]) (.kill [6]))
  (.post (.block 2 (.ghost (.ow 3 none 1) (.ghost .nv lo_impl_Checker_used_0))) .nv)))))
  (.ghost (.kill [60, 61, 62]) (.post (.reg [⟨(some 16), .op (.mv (.tmp 4)), none⟩,
    ⟨(some 17), .op (.bin .add (.tmp 16) (.const (Value.int .i64 1))), none⟩,
    ⟨(some 4), .op (.mv (.tmp 17)), none⟩]) (.kill [16, 17]))))) .nv)
def lo_impl_Checker_used_1 : AC := (.loop lb_impl_Checker_used_1)
def ac_impl_Checker_used : AC := (.seq (.post (.reg [⟨(some 1), .op (.box true (.tmp 0)), none⟩,
    ⟨(some 2), .op (.mv (.const (Value.slice none 0 0))), none⟩]) (.kill [0, 2]))
  (.seq (.post (.reg [⟨(some 9), .op (.faddr (.tmp 1) 1), none⟩,
    ⟨(some 10), .op (.load 1 false (.tmp 9)), none⟩,
    ⟨(some 11), .op (.lits false 1 1 (Value.int .i64 0) [(0, (.tmp 10))]), none⟩,
    ⟨(some 3), .op (.mv (.tmp 11)), none⟩]) (.kill [9, 10, 11]))
  (.seq (.seq (.reg [⟨(some 4), .op (.mv (.const (Value.int .i64 0))), none⟩])
  (.post (.block 0 (.ghost (.ow 3 none 1) (.ghost .nv lo_impl_Checker_used_1))) .nv))
  (.ghost (.kill [1, 4]) (.seq (.post (.reg [⟨(some 75), .op (.mv (.tmp 3)), none⟩,
    ⟨(some 76), .call (.func i_slices_Sort_L_int64) [(.tmp 75)], none⟩]) (.kill [75, 76]))
  (.seq (.post (.reg [⟨(some 77), .op (.mv (.tmp 3)), none⟩,
    ⟨(some 2), .op (.mv (.tmp 77)), none⟩]) (.kill [3, 77]))
  .ret))))))
theorem cf_impl_Checker_used : chkFn Try.prog i_impl_Checker_used ac_impl_Checker_used [.tmp 2] 78 = true := by decide +kernel
def fa_impl_Checker_used : FnA := ⟨ac_impl_Checker_used, [.tmp 2], 78, false, false, [(.agg [.any, .any, (.lst 1 .any), (.lst 1 (.lst 2 .any)), (.lst 1 (.lst 1 (.lst 1 .any))), (.lst 1 (.lst 1 .any))])], .any, none⟩

/-- The checked code of impl TrimChecker 1. -/
def ac_impl_TrimChecker_1 : AC := (.seq (.post (.reg [⟨(some 3), .op (.mv (.const (Value.int .i64 0))), none⟩]) (.kill [3]))
  (.seq (.post (.reg [⟨(some 4), .op (.load 1 false (.tmp 1)), none⟩,
    ⟨(some 5), .op (.mv (.tmp 0)), none⟩,
    ⟨(some 6), .call (.func i_slices_Index_L_int64) [(.tmp 4), (.tmp 5)], none⟩,
    ⟨(some 3), .op (.mv (.tmp 6)), none⟩]) (.kill [0, 1, 4, 5, 6]))
  .ret))
theorem cf_impl_TrimChecker_1 : chkFn Try.prog i_impl_TrimChecker_1 ac_impl_TrimChecker_1 [.tmp 3] 7 = true := by decide +kernel
def fa_impl_TrimChecker_1 : FnA := ⟨ac_impl_TrimChecker_1, [.tmp 3], 7, false, true, [], .any, none⟩

/-- The checked code of impl built. -/
def lb_impl_built_0 : AC := (.seq (.reg [⟨(some 40), .op (.bin .lss (.tmp 39) (.tmp 38)), none⟩])
  (.seq (.cond (.tmp 40) (.ghost (.kill [40]) .skip)
  (.ghost (.kill [38, 39, 40]) (.exit 4)))
  (.seq (.block 5 (.seq (.post (.reg [⟨(some 41), .op (.mv (.tmp 39)), none⟩,
    ⟨(some 22), .op (.mv (.tmp 41)), none⟩]) (.kill [41]))
  (.post (.reg [⟨(some 42), .op (.mv (.tmp 21)), none⟩,
    ⟨(some 43), .op (.mv (.tmp 5)), none⟩,
    ⟨(some 44), .op (.mv (.tmp 16)), none⟩,
    ⟨(some 45), .op (.mv (.tmp 20)), none⟩,
    ⟨(some 46), .op (.mv (.tmp 22)), none⟩,
    ⟨(some 47), .call (.tmp 43) [(.tmp 44), (.tmp 45), (.tmp 46)], none⟩,
    ⟨(some 48), .op (.lits true 1 1 (Value.int .i64 0) [(0, (.tmp 47))]), none⟩,
    ⟨(some 49), .op (.append (.tmp 42) (.tmp 48) 1 8), none⟩,
    ⟨(some 21), .op (.mv (.tmp 49)), none⟩]) (.kill [22, 42, 43, 44, 45, 46, 47, 48, 49]))))
  (.post (.reg [⟨(some 50), .op (.bin .add (.tmp 39) (.const (Value.int .i64 1))), none⟩,
    ⟨(some 39), .op (.mv (.tmp 50)), none⟩]) (.kill [50])))))
def lo_impl_built_0 : AC := (.loop lb_impl_built_0)
def lb_impl_built_1 : AC := (.seq (.reg [⟨(some 34), .op (.bin .lss (.tmp 33) (.const (Value.int .i64 2))), none⟩])
  (.seq (.cond (.tmp 34) (.ghost (.kill [34]) .skip)
  (.ghost (.kill [33, 34]) (.exit 2)))
  (.seq (.block 3 (.seq (.post (.reg [⟨(some 35), .op (.mv (.tmp 33)), none⟩,
    ⟨(some 20), .op (.mv (.tmp 35)), none⟩]) (.kill [35]))
  (.seq (.post (.reg [⟨(some 36), .op (.lits true 1 0 (Value.int .i64 0) []), none⟩,
    ⟨(some 21), .op (.mv (.tmp 36)), none⟩]) (.kill [36]))
  (.seq (.seq (.post (.reg [⟨(some 37), .op (.mv (.tmp 1)), none⟩,
    ⟨(some 38), .op (.bin .add (.tmp 37) (.const (Value.int .i64 1))), none⟩,
    ⟨(some 39), .op (.mv (.const (Value.int .i64 0))), none⟩]) (.kill [37]))
  (.block 4 (.ghost (.ow 15 (some 2) 1) (.ghost (.ow 15 (some 3) 1) (.ghost (.ow 15 (some 4) 1) (.ghost (.ow 15 (some 5) 1) (.ghost (.ow 17 none 2) (.ghost (.ow 18 none 1) (.ghost (.ow 19 none 1) (.ghost (.ow 21 none 1) lo_impl_built_0))))))))))
  (.ghost (.kill [38, 39]) (.post (.reg [⟨(some 51), .op (.mv (.tmp 17)), none⟩,
    ⟨(some 52), .op (.mv (.tmp 4)), none⟩,
    ⟨(some 53), .op (.mv (.tmp 16)), none⟩,
    ⟨(some 54), .op (.mv (.tmp 20)), none⟩,
    ⟨(some 55), .call (.tmp 52) [(.tmp 53), (.tmp 54)], none⟩,
    ⟨(some 56), .op (.lits true 2 1 (Value.agg #[Value.int .i64 0, Value.int .i64 0]) [(0, (.tmp 55))]), none⟩,
    ⟨(some 57), .op (.append (.tmp 51) (.tmp 56) 2 16), none⟩,
    ⟨(some 58), .op (.mv (.tmp 18)), none⟩,
    ⟨(some 59), .op (.mv (.tmp 21)), none⟩,
    ⟨(some 60), .op (.lits true 1 1 (Value.slice none 0 0) [(0, (.tmp 59))]), none⟩,
    ⟨(some 61), .op (.append (.tmp 58) (.tmp 60) 1 24), none⟩,
    ⟨(some 62), .op (.mv (.tmp 19)), none⟩,
    ⟨(some 63), .op (.mv (.tmp 6)), none⟩,
    ⟨(some 64), .op (.mv (.tmp 16)), none⟩,
    ⟨(some 65), .op (.mv (.tmp 20)), none⟩,
    ⟨(some 66), .call (.tmp 63) [(.tmp 64), (.tmp 65)], none⟩,
    ⟨(some 67), .op (.lits true 1 1 (Value.int .i64 0) [(0, (.tmp 66))]), none⟩,
    ⟨(some 68), .op (.append (.tmp 62) (.tmp 67) 1 8), none⟩,
    ⟨(some 17), .op (.mv (.tmp 57)), none⟩,
    ⟨(some 18), .op (.mv (.tmp 61)), none⟩,
    ⟨(some 19), .op (.mv (.tmp 68)), none⟩]) (.kill [20, 21, 51, 52, 53, 54, 55, 56, 57, 58, 59, 60, 61, 62, 63, 64, 65, 66, 67, 68])))))))
  (.post (.reg [⟨(some 69), .op (.bin .add (.tmp 33) (.const (Value.int .i64 1))), none⟩,
    ⟨(some 33), .op (.mv (.tmp 69)), none⟩]) (.kill [69])))))
def lo_impl_built_1 : AC := (.loop lb_impl_built_1)
def lb_impl_built_2 : AC := (.seq (.reg [⟨(some 28), .op (.bin .lss (.tmp 27) (.tmp 26)), none⟩])
  (.seq (.cond (.tmp 28) (.ghost (.kill [28]) .skip)
  (.ghost (.kill [1, 3, 4, 5, 6, 26, 27, 28]) (.exit 0)))
  (.seq (.block 1 (.seq (.post (.reg [⟨(some 29), .op (.mv (.tmp 27)), none⟩,
    ⟨(some 16), .op (.mv (.tmp 29)), none⟩]) (.kill [29]))
  (.seq (.post (.reg [⟨(some 30), .op (.lits true 2 0 (Value.agg #[Value.int .i64 0, Value.int .i64 0]) []), none⟩,
    ⟨(some 31), .op (.lits true 1 0 (Value.slice none 0 0) []), none⟩,
    ⟨(some 32), .op (.lits true 1 0 (Value.int .i64 0) []), none⟩,
    ⟨(some 17), .op (.mv (.tmp 30)), none⟩,
    ⟨(some 18), .op (.mv (.tmp 31)), none⟩,
    ⟨(some 19), .op (.mv (.tmp 32)), none⟩]) (.kill [30, 31, 32]))
  (.seq (.seq (.reg [⟨(some 33), .op (.mv (.const (Value.int .i64 0))), none⟩])
  (.block 2 (.ghost (.ow 15 (some 2) 1) (.ghost (.ow 15 (some 3) 1) (.ghost (.ow 15 (some 4) 1) (.ghost (.ow 15 (some 5) 1) (.ghost (.ow 17 none 2) (.ghost (.ow 18 none 1) (.ghost (.ow 19 none 1) lo_impl_built_1)))))))))
  (.ghost (.kill [33]) (.post (.draw [⟨0, ⟨(some 70), .op (.faddr (.tmp 15) 2), none⟩, []⟩,
    ⟨1, ⟨(some 71), .op (.load 1 false (.tmp 70)), none⟩, []⟩,
    ⟨2, ⟨(some 72), .op (.mv (.tmp 3)), none⟩, []⟩,
    ⟨3, ⟨(some 73), .op (.mv (.tmp 16)), none⟩, []⟩,
    ⟨7, ⟨(some 77), .op (.faddr (.tmp 15) 3), none⟩, []⟩,
    ⟨8, ⟨(some 78), .op (.load 1 false (.tmp 77)), none⟩, []⟩,
    ⟨9, ⟨(some 79), .op (.mv (.tmp 17)), none⟩, []⟩,
    ⟨10, ⟨(some 80), .op (.lits true 1 1 (Value.slice none 0 0) [(0, (.tmp 79))]), none⟩, []⟩,
    ⟨12, ⟨(some 82), .op (.faddr (.tmp 15) 4), none⟩, []⟩,
    ⟨13, ⟨(some 83), .op (.load 1 false (.tmp 82)), none⟩, []⟩,
    ⟨14, ⟨(some 84), .op (.mv (.tmp 18)), none⟩, []⟩,
    ⟨15, ⟨(some 85), .op (.lits true 1 1 (Value.slice none 0 0) [(0, (.tmp 84))]), none⟩, []⟩,
    ⟨17, ⟨(some 87), .op (.faddr (.tmp 15) 5), none⟩, []⟩,
    ⟨18, ⟨(some 88), .op (.load 1 false (.tmp 87)), none⟩, []⟩,
    ⟨19, ⟨(some 89), .op (.mv (.tmp 19)), none⟩, []⟩,
    ⟨20, ⟨(some 90), .op (.lits true 1 1 (Value.slice none 0 0) [(0, (.tmp 89))]), none⟩, []⟩,
    ⟨4, ⟨(some 74), .call (.tmp 72) [(.tmp 73)], none⟩, [1, 8, 13, 18]⟩,
    ⟨5, ⟨(some 75), .op (.lits true 1 1 (Value.bool false) [(0, (.tmp 74))]), none⟩, []⟩,
    ⟨6, ⟨(some 76), .op (.append (.tmp 71) (.tmp 75) 1 1), none⟩, [8, 13, 18]⟩,
    ⟨22, ⟨(some 92), .op (.faddr (.tmp 15) 2), none⟩, []⟩,
    ⟨11, ⟨(some 81), .op (.append (.tmp 78) (.tmp 80) 1 24), none⟩, [13, 18]⟩,
    ⟨16, ⟨(some 86), .op (.append (.tmp 83) (.tmp 85) 1 24), none⟩, [18]⟩,
    ⟨21, ⟨(some 91), .op (.append (.tmp 88) (.tmp 90) 1 24), none⟩, []⟩,
    ⟨23, ⟨none, .op (.store 1 (.tmp 92) (.tmp 76)), none⟩, []⟩,
    ⟨24, ⟨(some 93), .op (.faddr (.tmp 15) 3), none⟩, []⟩,
    ⟨25, ⟨none, .op (.store 1 (.tmp 93) (.tmp 81)), none⟩, []⟩,
    ⟨26, ⟨(some 94), .op (.faddr (.tmp 15) 4), none⟩, []⟩,
    ⟨27, ⟨none, .op (.store 1 (.tmp 94) (.tmp 86)), none⟩, []⟩,
    ⟨28, ⟨(some 95), .op (.faddr (.tmp 15) 5), none⟩, []⟩,
    ⟨29, ⟨none, .op (.store 1 (.tmp 95) (.tmp 91)), none⟩, []⟩]
    [0, 1, 0, 0, 12, 28, 63, 0, 128, 0, 512, 2047, 0, 4096, 0, 16384, 65535, 0, 131072, 0, 524288, 2097151, 406015, 8388607, 16777215, 33554431, 67108863, 134217727, 268435455, 536870911]) (.kill [16, 17, 18, 19, 70, 71, 72, 73, 74, 75, 76, 77, 78, 79, 80, 81, 82, 83, 84, 85, 86, 87, 88, 89, 90, 91, 92, 93, 94, 95])))))))
  (.post (.reg [⟨(some 96), .op (.bin .add (.tmp 27) (.const (Value.int .i64 1))), none⟩,
    ⟨(some 27), .op (.mv (.tmp 96)), none⟩]) (.kill [96])))))
def lo_impl_built_2 : AC := (.loop lb_impl_built_2)
def ac_impl_built : AC := (.seq (.reg [⟨(some 14), .op (.alloc (Value.agg #[Value.int .i64 0, Value.int .i64 0, Value.slice none 0 0, Value.slice none 0 0, Value.slice none 0 0, Value.slice none 0 0])), none⟩])
  (.seq (.post (.reg [⟨(some 23), .op (.mv (.tmp 1)), none⟩,
    ⟨(some 24), .op (.mv (.tmp 2)), none⟩,
    ⟨(some 25), .op (.build [Value.int .i64 0, Value.int .i64 0, Value.slice none 0 0, Value.slice none 0 0, Value.slice none 0 0, Value.slice none 0 0] [(0, 1, (.tmp 23)), (1, 1, (.tmp 24))]), none⟩,
    ⟨(some 15), .op (.alloc (Value.agg #[Value.int .i64 0, Value.int .i64 0, Value.slice none 0 0, Value.slice none 0 0, Value.slice none 0 0, Value.slice none 0 0])), none⟩,
    ⟨none, .op (.store 6 (.tmp 15) (.tmp 25)), none⟩]) (.kill [2, 23, 24, 25]))
  (.seq (.seq (.post (.reg [⟨(some 26), .op (.mv (.tmp 0)), none⟩,
    ⟨(some 27), .op (.mv (.const (Value.int .i64 0))), none⟩]) (.kill [0]))
  (.block 0 (.ghost (.ow 15 (some 2) 1) (.ghost (.ow 15 (some 3) 1) (.ghost (.ow 15 (some 4) 1) (.ghost (.ow 15 (some 5) 1) lo_impl_built_2))))))
  (.ghost (.kill [1, 3, 4, 5, 6, 26, 27]) (.seq (.post (.reg [⟨(some 97), .op (.load 6 true (.tmp 15)), none⟩,
    ⟨none, .op (.store 6 (.tmp 14) (.tmp 97)), none⟩]) (.kill [15, 97]))
  .ret)))))
theorem cf_impl_built : chkFn Try.prog i_impl_built ac_impl_built [.cell 14 6 true] 98 = true := by decide +kernel
def fa_impl_built : FnA := ⟨ac_impl_built, [.cell 14 6 true], 98, false, false, [], .any, none⟩

/-- The checked code of impl TrimChecker 2. -/
def ac_impl_TrimChecker_2 : AC := (.seq (.post (.reg [⟨(some 4), .op (.mv (.const (Value.bool false))), none⟩]) (.kill [4]))
  (.seq (.post (.draw [⟨0, ⟨(some 5), .op (.faddr (.tmp 1) 2), none⟩, []⟩,
    ⟨1, ⟨(some 6), .op (.load 1 false (.tmp 5)), none⟩, []⟩,
    ⟨2, ⟨(some 7), .op (.load 1 false (.tmp 2)), none⟩, []⟩,
    ⟨3, ⟨(some 8), .op (.mv (.tmp 0)), none⟩, []⟩,
    ⟨4, ⟨(some 9), .op (.iaddrS (.tmp 7) (.tmp 8) 1), none⟩, []⟩,
    ⟨5, ⟨(some 10), .op (.load 1 false (.tmp 9)), none⟩, []⟩,
    ⟨6, ⟨(some 11), .op (.iaddrS (.tmp 6) (.tmp 10) 1), none⟩, []⟩,
    ⟨7, ⟨(some 12), .op (.load 1 false (.tmp 11)), none⟩, []⟩,
    ⟨8, ⟨(some 4), .op (.mv (.tmp 12)), none⟩, []⟩]
    [0, 1, 0, 0, 12, 28, 63, 127, 255]) (.kill [0, 1, 2, 5, 6, 7, 8, 9, 10, 11, 12]))
  .ret))
theorem cf_impl_TrimChecker_2 : chkFn Try.prog i_impl_TrimChecker_2 ac_impl_TrimChecker_2 [.tmp 4] 13 = true := by decide +kernel
def fa_impl_TrimChecker_2 : FnA := ⟨ac_impl_TrimChecker_2, [.tmp 4], 13, false, true, [], .any, none⟩

/-- The checked code of impl TrimChecker 3. -/
def ac_impl_TrimChecker_3 : AC := (.seq (.reg [⟨(some 7), .op (.alloc (Value.agg #[Value.int .i64 0, Value.int .i64 0])), none⟩])
  (.seq (.post (.draw [⟨0, ⟨(some 9), .op (.faddr (.tmp 2) 3), none⟩, []⟩,
    ⟨1, ⟨(some 10), .op (.load 1 false (.tmp 9)), none⟩, []⟩,
    ⟨2, ⟨(some 11), .op (.load 1 false (.tmp 3)), none⟩, []⟩,
    ⟨3, ⟨(some 12), .op (.mv (.tmp 0)), none⟩, []⟩,
    ⟨4, ⟨(some 13), .op (.iaddrS (.tmp 11) (.tmp 12) 1), none⟩, []⟩,
    ⟨5, ⟨(some 14), .op (.load 1 false (.tmp 13)), none⟩, []⟩,
    ⟨6, ⟨(some 15), .op (.iaddrS (.tmp 10) (.tmp 14) 1), none⟩, []⟩,
    ⟨7, ⟨(some 16), .op (.load 1 false (.tmp 15)), none⟩, []⟩,
    ⟨8, ⟨(some 17), .op (.mv (.tmp 1)), none⟩, []⟩,
    ⟨9, ⟨(some 18), .op (.iaddrS (.tmp 16) (.tmp 17) 2), none⟩, []⟩,
    ⟨10, ⟨(some 19), .op (.load 2 true (.tmp 18)), none⟩, []⟩,
    ⟨11, ⟨(some 8), .op (.alloc (Value.agg #[Value.int .i64 0, Value.int .i64 0])), none⟩, [1, 2, 4, 5, 6, 7, 9, 10]⟩,
    ⟨12, ⟨none, .op (.store 2 (.tmp 8) (.tmp 19)), none⟩, []⟩]
    [0, 1, 0, 0, 12, 28, 63, 127, 0, 511, 1023, 0, 4095]) (.kill [0, 1, 2, 3, 9, 10, 11, 12, 13, 14, 15, 16, 17, 18, 19]))
  (.seq (.post (.draw [⟨0, ⟨(some 20), .op (.load 1 false (.tmp 4)), none⟩, []⟩,
    ⟨1, ⟨(some 21), .op (.faddr (.tmp 8) 0), none⟩, []⟩,
    ⟨2, ⟨(some 22), .op (.load 1 false (.tmp 21)), none⟩, []⟩,
    ⟨4, ⟨(some 24), .op (.faddr (.tmp 8) 1), none⟩, []⟩,
    ⟨5, ⟨(some 25), .op (.load 1 false (.tmp 24)), none⟩, []⟩,
    ⟨3, ⟨(some 23), .call (.tmp 20) [(.tmp 22)], none⟩, [5]⟩,
    ⟨6, ⟨(some 26), .op (.build [Value.int .i64 0, Value.int .i64 0] [(0, 1, (.tmp 23)), (1, 1, (.tmp 25))]), none⟩, []⟩,
    ⟨7, ⟨none, .op (.store 2 (.tmp 7) (.tmp 26)), none⟩, []⟩]
    [0, 0, 2, 7, 0, 16, 63, 127]) (.kill [4, 8, 20, 21, 22, 23, 24, 25, 26]))
  .ret)))
theorem cf_impl_TrimChecker_3 : chkFn Try.prog i_impl_TrimChecker_3 ac_impl_TrimChecker_3 [.cell 7 2 true] 27 = true := by decide +kernel
def fa_impl_TrimChecker_3 : FnA := ⟨ac_impl_TrimChecker_3, [.cell 7 2 true], 27, false, true, [], .any, none⟩

/-- The checked code of impl TrimChecker 4. -/
def ac_impl_TrimChecker_4 : AC := (.seq (.post (.reg [⟨(some 9), .op (.mv (.const (Value.int .i64 0))), none⟩]) (.kill [9]))
  (.seq (.post (.draw [⟨0, ⟨(some 10), .op (.load 1 false (.tmp 3)), none⟩, []⟩,
    ⟨1, ⟨(some 11), .op (.faddr (.tmp 4) 4), none⟩, []⟩,
    ⟨2, ⟨(some 12), .op (.load 1 false (.tmp 11)), none⟩, []⟩,
    ⟨3, ⟨(some 13), .op (.load 1 false (.tmp 5)), none⟩, []⟩,
    ⟨4, ⟨(some 14), .op (.mv (.tmp 0)), none⟩, []⟩,
    ⟨5, ⟨(some 15), .op (.iaddrS (.tmp 13) (.tmp 14) 1), none⟩, []⟩,
    ⟨6, ⟨(some 16), .op (.load 1 false (.tmp 15)), none⟩, []⟩,
    ⟨7, ⟨(some 17), .op (.iaddrS (.tmp 12) (.tmp 16) 1), none⟩, []⟩,
    ⟨8, ⟨(some 18), .op (.load 1 false (.tmp 17)), none⟩, []⟩,
    ⟨9, ⟨(some 19), .op (.mv (.tmp 1)), none⟩, []⟩,
    ⟨10, ⟨(some 20), .op (.iaddrS (.tmp 18) (.tmp 19) 1), none⟩, []⟩,
    ⟨11, ⟨(some 21), .op (.load 1 false (.tmp 20)), none⟩, []⟩,
    ⟨12, ⟨(some 22), .op (.mv (.tmp 2)), none⟩, []⟩,
    ⟨13, ⟨(some 23), .op (.iaddrS (.tmp 21) (.tmp 22) 1), none⟩, []⟩,
    ⟨14, ⟨(some 24), .op (.load 1 false (.tmp 23)), none⟩, []⟩,
    ⟨15, ⟨(some 25), .call (.tmp 10) [(.tmp 24)], none⟩, []⟩,
    ⟨16, ⟨(some 9), .op (.mv (.tmp 25)), none⟩, []⟩]
    [0, 0, 2, 0, 0, 24, 56, 126, 254, 0, 1022, 2046, 0, 8190, 16382, 32767, 65535]) (.kill [0, 1, 2, 3, 4, 5, 10, 11, 12, 13, 14, 15, 16, 17, 18, 19, 20, 21, 22, 23, 24, 25]))
  .ret))
theorem cf_impl_TrimChecker_4 : chkFn Try.prog i_impl_TrimChecker_4 ac_impl_TrimChecker_4 [.tmp 9] 26 = true := by decide +kernel
def fa_impl_TrimChecker_4 : FnA := ⟨ac_impl_TrimChecker_4, [.tmp 9], 26, false, true, [], .any, none⟩

/-- The checked code of impl TrimChecker 5. -/
def ac_impl_TrimChecker_5 : AC := (.seq (.post (.reg [⟨(some 7), .op (.mv (.const (Value.int .i64 0))), none⟩]) (.kill [7]))
  (.seq (.post (.draw [⟨0, ⟨(some 8), .op (.load 1 false (.tmp 2)), none⟩, []⟩,
    ⟨1, ⟨(some 9), .op (.faddr (.tmp 3) 5), none⟩, []⟩,
    ⟨2, ⟨(some 10), .op (.load 1 false (.tmp 9)), none⟩, []⟩,
    ⟨3, ⟨(some 11), .op (.load 1 false (.tmp 4)), none⟩, []⟩,
    ⟨4, ⟨(some 12), .op (.mv (.tmp 0)), none⟩, []⟩,
    ⟨5, ⟨(some 13), .op (.iaddrS (.tmp 11) (.tmp 12) 1), none⟩, []⟩,
    ⟨6, ⟨(some 14), .op (.load 1 false (.tmp 13)), none⟩, []⟩,
    ⟨7, ⟨(some 15), .op (.iaddrS (.tmp 10) (.tmp 14) 1), none⟩, []⟩,
    ⟨8, ⟨(some 16), .op (.load 1 false (.tmp 15)), none⟩, []⟩,
    ⟨9, ⟨(some 17), .op (.mv (.tmp 1)), none⟩, []⟩,
    ⟨10, ⟨(some 18), .op (.iaddrS (.tmp 16) (.tmp 17) 1), none⟩, []⟩,
    ⟨11, ⟨(some 19), .op (.load 1 false (.tmp 18)), none⟩, []⟩,
    ⟨12, ⟨(some 20), .call (.tmp 8) [(.tmp 19)], none⟩, []⟩,
    ⟨13, ⟨(some 7), .op (.mv (.tmp 20)), none⟩, []⟩]
    [0, 0, 2, 0, 0, 24, 56, 126, 254, 0, 1022, 2046, 4095, 8191]) (.kill [0, 1, 2, 3, 4, 8, 9, 10, 11, 12, 13, 14, 15, 16, 17, 18, 19, 20]))
  .ret))
theorem cf_impl_TrimChecker_5 : chkFn Try.prog i_impl_TrimChecker_5 ac_impl_TrimChecker_5 [.tmp 7] 21 = true := by decide +kernel
def fa_impl_TrimChecker_5 : FnA := ⟨ac_impl_TrimChecker_5, [.tmp 7], 21, false, true, [], .any, none⟩

/-- The checked code of impl TrimChecker. -/
def ac_impl_TrimChecker : AC := (.seq (.post (.reg [⟨(some 1), .op (.box true (.tmp 0)), none⟩,
    ⟨(some 2), .op (.alloc (Value.agg #[Value.int .i64 0, Value.int .i64 0, Value.slice none 0 0, Value.slice none 0 0, Value.slice none 0 0, Value.slice none 0 0])), none⟩,
    ⟨(some 3), .op (.mv (.const (Value.int .i64 0))), none⟩]) (.kill [0, 3]))
  (.seq (.seq (.post (.reg [⟨(some 6), .op (.load 6 true (.tmp 1)), none⟩,
    ⟨(some 7), .call (.func i_impl_ValidChecker) [(.tmp 6)], none⟩,
    ⟨(some 8), .op (.un .not (.tmp 7)), none⟩]) (.kill [6, 7]))
  (.cond (.tmp 8) (.ghost (.kill [1, 8]) (.seq (.post (.reg [⟨(some 9), .op (.build [Value.int .i64 0, Value.int .i64 0, Value.slice none 0 0, Value.slice none 0 0, Value.slice none 0 0, Value.slice none 0 0] []), none⟩,
    ⟨none, .op (.store 6 (.tmp 2) (.tmp 9)), none⟩,
    ⟨(some 3), .op (.mv (.const (Value.int .i64 1))), none⟩]) (.kill [9]))
  .ret))
  (.ghost (.kill [8]) .skip)))
  (.seq (.post (.reg [⟨(some 10), .op (.load 6 true (.tmp 1)), none⟩,
    ⟨(some 11), .call (.func i_impl_Checker_used) [(.tmp 10)], none⟩,
    ⟨(some 4), .op (.alloc (Value.slice none 0 0)), none⟩,
    ⟨none, .op (.store 1 (.tmp 4) (.tmp 11)), none⟩]) (.kill [10, 11]))
  (.seq (.post (.reg [⟨(some 12), .op (.mkfn i_impl_TrimChecker_1 [(.tmp 4)]), none⟩,
    ⟨(some 5), .op (.alloc (Value.nilFunc)), none⟩,
    ⟨none, .op (.store 1 (.tmp 5) (.tmp 12)), none⟩]) (.kill [12]))
  (.seq (.post (.draw [⟨0, ⟨(some 13), .op (.load 1 false (.tmp 4)), none⟩, []⟩,
    ⟨2, ⟨(some 15), .op (.faddr (.tmp 1) 0), none⟩, []⟩,
    ⟨3, ⟨(some 16), .op (.load 1 false (.tmp 15)), none⟩, []⟩,
    ⟨4, ⟨(some 17), .op (.load 1 false (.tmp 5)), none⟩, []⟩,
    ⟨5, ⟨(some 18), .op (.faddr (.tmp 1) 1), none⟩, []⟩,
    ⟨6, ⟨(some 19), .op (.load 1 false (.tmp 18)), none⟩, []⟩,
    ⟨8, ⟨(some 21), .op (.mkfn i_impl_TrimChecker_2 [(.tmp 1), (.tmp 4)]), none⟩, []⟩,
    ⟨9, ⟨(some 22), .op (.mkfn i_impl_TrimChecker_3 [(.tmp 1), (.tmp 4), (.tmp 5)]), none⟩, []⟩,
    ⟨10, ⟨(some 23), .op (.mkfn i_impl_TrimChecker_4 [(.tmp 5), (.tmp 1), (.tmp 4)]), none⟩, []⟩,
    ⟨11, ⟨(some 24), .op (.mkfn i_impl_TrimChecker_5 [(.tmp 5), (.tmp 1), (.tmp 4)]), none⟩, []⟩,
    ⟨1, ⟨(some 14), .call (.func i_impl_size_int64) [(.tmp 13)], none⟩, [3, 4, 6]⟩,
    ⟨7, ⟨(some 20), .call (.tmp 17) [(.tmp 19)], none⟩, [3]⟩,
    ⟨12, ⟨(some 25), .call (.func i_impl_built) [(.tmp 14), (.tmp 16), (.tmp 20), (.tmp 21), (.tmp 22), (.tmp 23), (.tmp 24)], none⟩, []⟩,
    ⟨13, ⟨none, .op (.store 6 (.tmp 2) (.tmp 25)), none⟩, []⟩,
    ⟨14, ⟨(some 3), .op (.mv (.const (Value.int .i64 0))), none⟩, []⟩]
    [0, 1, 0, 4, 0, 0, 32, 115, 0, 0, 0, 0, 4095, 8191, 16383]) (.kill [1, 4, 5, 13, 14, 15, 16, 17, 18, 19, 20, 21, 22, 23, 24, 25]))
  .ret)))))
theorem cf_impl_TrimChecker : chkFn Try.prog i_impl_TrimChecker ac_impl_TrimChecker [.cell 2 6 true, .tmp 3] 26 = true := by decide +kernel
def fa_impl_TrimChecker : FnA := ⟨ac_impl_TrimChecker, [.cell 2 6 true, .tmp 3], 26, false, false, [(.agg [.any, .any, (.lst 1 .any), (.lst 1 (.lst 2 .any)), (.lst 1 (.lst 1 (.lst 1 .any))), (.lst 1 (.lst 1 .any))])], .any, none⟩

/-- The checked code of laws heldBoolS. -/
def lb_laws_heldBoolS_0 : AC := (.seq (.seq (.post (.reg [⟨(some 6), .op (.mv (.tmp 5)), none⟩,
    ⟨(some 7), .op (.mv (.tmp 0)), none⟩,
    ⟨(some 8), .op (.len false (.tmp 7)), none⟩,
    ⟨(some 9), .op (.bin .lss (.tmp 6) (.tmp 8)), none⟩]) (.kill [6, 7, 8]))
  (.cond (.tmp 9) (.ghost (.kill [9]) .skip)
  (.ghost (.kill [0, 5, 9]) (.exit 0))))
  (.seq (.block 1 (.seq (.seq (.post (.reg [⟨(some 12), .op (.mv (.tmp 0)), none⟩,
    ⟨(some 13), .op (.mv (.tmp 5)), none⟩,
    ⟨(some 14), .op (.iaddrS (.tmp 12) (.tmp 13) 1), none⟩,
    ⟨(some 15), .op (.load 1 false (.tmp 14)), none⟩,
    ⟨(some 16), .op (.mv (.tmp 1)), none⟩,
    ⟨(some 17), .op (.bin .rem (.tmp 16) (.const (Value.int .i64 3))), none⟩,
    ⟨(some 18), .op (.bin .eql (.tmp 17) (.const (Value.int .i64 0))), none⟩,
    ⟨(some 19), .op (.eqb true (.tmp 15) (.tmp 18)), none⟩]) (.kill [12, 13, 14, 15, 16, 17, 18]))
  (.cond (.tmp 19) (.ghost (.kill [0, 1, 5, 19]) (.seq (.reg [⟨(some 4), .op (.mv (.const (Value.int .i64 (-1)))), none⟩])
  .ret))
  (.ghost (.kill [19]) .skip)))
  (.post (.reg [⟨(some 20), .op (.mv (.tmp 1)), none⟩,
    ⟨(some 21), .op (.bin .add (.tmp 20) (.const (Value.int .i64 1))), none⟩,
    ⟨(some 1), .op (.mv (.tmp 21)), none⟩]) (.kill [20, 21]))))
  (.post (.reg [⟨(some 10), .op (.mv (.tmp 5)), none⟩,
    ⟨(some 11), .op (.bin .add (.tmp 10) (.const (Value.int .i64 1))), none⟩,
    ⟨(some 5), .op (.mv (.tmp 11)), none⟩]) (.kill [10, 11]))))
def lo_laws_heldBoolS_0 : AC := (.loop lb_laws_heldBoolS_0)
def ac_laws_heldBoolS : AC := (.seq (.post (.reg [⟨(some 4), .op (.mv (.const (Value.int .i64 0))), none⟩]) (.kill [4]))
  (.seq (.seq (.reg [⟨(some 5), .op (.mv (.const (Value.int .i64 0))), none⟩])
  (.block 0 lo_laws_heldBoolS_0))
  (.ghost (.kill [0, 5]) (.seq (.post (.reg [⟨(some 22), .op (.mv (.tmp 1)), none⟩,
    ⟨(some 4), .op (.mv (.tmp 22)), none⟩]) (.kill [1, 22]))
  .ret))))
theorem cf_laws_heldBoolS : chkFn Try.prog i_laws_heldBoolS ac_laws_heldBoolS [.tmp 4] 23 = true := by decide +kernel
def fa_laws_heldBoolS : FnA := ⟨ac_laws_heldBoolS, [.tmp 4], 23, false, true, [], .any, none⟩

/-- The checked code of laws heldInt64S. -/
def lb_laws_heldInt64S_0 : AC := (.seq (.seq (.post (.reg [⟨(some 6), .op (.mv (.tmp 5)), none⟩,
    ⟨(some 7), .op (.mv (.tmp 0)), none⟩,
    ⟨(some 8), .op (.len false (.tmp 7)), none⟩,
    ⟨(some 9), .op (.bin .lss (.tmp 6) (.tmp 8)), none⟩]) (.kill [6, 7, 8]))
  (.cond (.tmp 9) (.ghost (.kill [9]) .skip)
  (.ghost (.kill [0, 5, 9]) (.exit 0))))
  (.seq (.block 1 (.seq (.seq (.post (.reg [⟨(some 12), .op (.mv (.tmp 0)), none⟩,
    ⟨(some 13), .op (.mv (.tmp 5)), none⟩,
    ⟨(some 14), .op (.iaddrS (.tmp 12) (.tmp 13) 1), none⟩,
    ⟨(some 15), .op (.load 1 false (.tmp 14)), none⟩,
    ⟨(some 16), .op (.mv (.tmp 1)), none⟩,
    ⟨(some 17), .op (.bin .neq (.tmp 15) (.tmp 16)), none⟩]) (.kill [12, 13, 14, 15, 16]))
  (.cond (.tmp 17) (.ghost (.kill [0, 1, 5, 17]) (.seq (.reg [⟨(some 4), .op (.mv (.const (Value.int .i64 (-1)))), none⟩])
  .ret))
  (.ghost (.kill [17]) .skip)))
  (.post (.reg [⟨(some 18), .op (.mv (.tmp 1)), none⟩,
    ⟨(some 19), .op (.bin .add (.tmp 18) (.const (Value.int .i64 1))), none⟩,
    ⟨(some 1), .op (.mv (.tmp 19)), none⟩]) (.kill [18, 19]))))
  (.post (.reg [⟨(some 10), .op (.mv (.tmp 5)), none⟩,
    ⟨(some 11), .op (.bin .add (.tmp 10) (.const (Value.int .i64 1))), none⟩,
    ⟨(some 5), .op (.mv (.tmp 11)), none⟩]) (.kill [10, 11]))))
def lo_laws_heldInt64S_0 : AC := (.loop lb_laws_heldInt64S_0)
def ac_laws_heldInt64S : AC := (.seq (.post (.reg [⟨(some 4), .op (.mv (.const (Value.int .i64 0))), none⟩]) (.kill [4]))
  (.seq (.seq (.reg [⟨(some 5), .op (.mv (.const (Value.int .i64 0))), none⟩])
  (.block 0 lo_laws_heldInt64S_0))
  (.ghost (.kill [0, 5]) (.seq (.post (.reg [⟨(some 20), .op (.mv (.tmp 1)), none⟩,
    ⟨(some 4), .op (.mv (.tmp 20)), none⟩]) (.kill [1, 20]))
  .ret))))
theorem cf_laws_heldInt64S : chkFn Try.prog i_laws_heldInt64S ac_laws_heldInt64S [.tmp 4] 21 = true := by decide +kernel
def fa_laws_heldInt64S : FnA := ⟨ac_laws_heldInt64S, [.tmp 4], 21, false, true, [(.lst 1 .any), .any], .any, none⟩

/-- The checked code of laws heldInt64SS. -/
def lb_laws_heldInt64SS_0 : AC := (.seq (.seq (.post (.reg [⟨(some 6), .op (.mv (.tmp 5)), none⟩,
    ⟨(some 7), .op (.mv (.tmp 0)), none⟩,
    ⟨(some 8), .op (.len false (.tmp 7)), none⟩,
    ⟨(some 9), .op (.bin .lss (.tmp 6) (.tmp 8)), none⟩]) (.kill [6, 7, 8]))
  (.cond (.tmp 9) (.ghost (.kill [9]) .skip)
  (.ghost (.kill [0, 5, 9]) (.exit 0))))
  (.seq (.block 1 (.seq (.post (.reg [⟨(some 12), .op (.mv (.tmp 0)), none⟩,
    ⟨(some 13), .op (.mv (.tmp 5)), none⟩,
    ⟨(some 14), .op (.iaddrS (.tmp 12) (.tmp 13) 1), none⟩,
    ⟨(some 15), .op (.load 1 false (.tmp 14)), none⟩,
    ⟨(some 16), .op (.mv (.tmp 1)), none⟩,
    ⟨(some 17), .call (.func i_laws_heldInt64S) [(.tmp 15), (.tmp 16)], none⟩,
    ⟨(some 1), .op (.mv (.tmp 17)), none⟩]) (.kill [12, 13, 14, 15, 16, 17]))
  (.seq (.post (.reg [⟨(some 18), .op (.mv (.tmp 1)), none⟩,
    ⟨(some 19), .op (.bin .lss (.tmp 18) (.const (Value.int .i64 0))), none⟩]) (.kill [18]))
  (.cond (.tmp 19) (.ghost (.kill [0, 1, 5, 19]) (.seq (.reg [⟨(some 4), .op (.mv (.const (Value.int .i64 (-1)))), none⟩])
  .ret))
  (.ghost (.kill [19]) .skip)))))
  (.post (.reg [⟨(some 10), .op (.mv (.tmp 5)), none⟩,
    ⟨(some 11), .op (.bin .add (.tmp 10) (.const (Value.int .i64 1))), none⟩,
    ⟨(some 5), .op (.mv (.tmp 11)), none⟩]) (.kill [10, 11]))))
def lo_laws_heldInt64SS_0 : AC := (.loop lb_laws_heldInt64SS_0)
def ac_laws_heldInt64SS : AC := (.seq (.post (.reg [⟨(some 4), .op (.mv (.const (Value.int .i64 0))), none⟩]) (.kill [4]))
  (.seq (.seq (.reg [⟨(some 5), .op (.mv (.const (Value.int .i64 0))), none⟩])
  (.block 0 lo_laws_heldInt64SS_0))
  (.ghost (.kill [0, 5]) (.seq (.post (.reg [⟨(some 20), .op (.mv (.tmp 1)), none⟩,
    ⟨(some 4), .op (.mv (.tmp 20)), none⟩]) (.kill [1, 20]))
  .ret))))
theorem cf_laws_heldInt64SS : chkFn Try.prog i_laws_heldInt64SS ac_laws_heldInt64SS [.tmp 4] 21 = true := by decide +kernel
def fa_laws_heldInt64SS : FnA := ⟨ac_laws_heldInt64SS, [.tmp 4], 21, false, true, [(.lst 1 (.lst 1 .any)), .any], .any, none⟩

/-- The checked code of laws heldInt64SSS. -/
def lb_laws_heldInt64SSS_0 : AC := (.seq (.seq (.post (.reg [⟨(some 6), .op (.mv (.tmp 5)), none⟩,
    ⟨(some 7), .op (.mv (.tmp 0)), none⟩,
    ⟨(some 8), .op (.len false (.tmp 7)), none⟩,
    ⟨(some 9), .op (.bin .lss (.tmp 6) (.tmp 8)), none⟩]) (.kill [6, 7, 8]))
  (.cond (.tmp 9) (.ghost (.kill [9]) .skip)
  (.ghost (.kill [0, 5, 9]) (.exit 0))))
  (.seq (.block 1 (.seq (.post (.reg [⟨(some 12), .op (.mv (.tmp 0)), none⟩,
    ⟨(some 13), .op (.mv (.tmp 5)), none⟩,
    ⟨(some 14), .op (.iaddrS (.tmp 12) (.tmp 13) 1), none⟩,
    ⟨(some 15), .op (.load 1 false (.tmp 14)), none⟩,
    ⟨(some 16), .op (.mv (.tmp 1)), none⟩,
    ⟨(some 17), .call (.func i_laws_heldInt64SS) [(.tmp 15), (.tmp 16)], none⟩,
    ⟨(some 1), .op (.mv (.tmp 17)), none⟩]) (.kill [12, 13, 14, 15, 16, 17]))
  (.seq (.post (.reg [⟨(some 18), .op (.mv (.tmp 1)), none⟩,
    ⟨(some 19), .op (.bin .lss (.tmp 18) (.const (Value.int .i64 0))), none⟩]) (.kill [18]))
  (.cond (.tmp 19) (.ghost (.kill [0, 1, 5, 19]) (.seq (.reg [⟨(some 4), .op (.mv (.const (Value.int .i64 (-1)))), none⟩])
  .ret))
  (.ghost (.kill [19]) .skip)))))
  (.post (.reg [⟨(some 10), .op (.mv (.tmp 5)), none⟩,
    ⟨(some 11), .op (.bin .add (.tmp 10) (.const (Value.int .i64 1))), none⟩,
    ⟨(some 5), .op (.mv (.tmp 11)), none⟩]) (.kill [10, 11]))))
def lo_laws_heldInt64SSS_0 : AC := (.loop lb_laws_heldInt64SSS_0)
def ac_laws_heldInt64SSS : AC := (.seq (.post (.reg [⟨(some 4), .op (.mv (.const (Value.int .i64 0))), none⟩]) (.kill [4]))
  (.seq (.seq (.reg [⟨(some 5), .op (.mv (.const (Value.int .i64 0))), none⟩])
  (.block 0 lo_laws_heldInt64SSS_0))
  (.ghost (.kill [0, 5]) (.seq (.post (.reg [⟨(some 20), .op (.mv (.tmp 1)), none⟩,
    ⟨(some 4), .op (.mv (.tmp 20)), none⟩]) (.kill [1, 20]))
  .ret))))
theorem cf_laws_heldInt64SSS : chkFn Try.prog i_laws_heldInt64SSS ac_laws_heldInt64SSS [.tmp 4] 21 = true := by decide +kernel
def fa_laws_heldInt64SSS : FnA := ⟨ac_laws_heldInt64SSS, [.tmp 4], 21, false, true, [], .any, none⟩

/-- The checked code of laws heldPushS. -/
def lb_laws_heldPushS_0 : AC := (.seq (.seq (.post (.reg [⟨(some 6), .op (.mv (.tmp 5)), none⟩,
    ⟨(some 7), .op (.mv (.tmp 0)), none⟩,
    ⟨(some 8), .op (.len false (.tmp 7)), none⟩,
    ⟨(some 9), .op (.bin .lss (.tmp 6) (.tmp 8)), none⟩]) (.kill [6, 7, 8]))
  (.cond (.tmp 9) (.ghost (.kill [9]) .skip)
  (.ghost (.kill [0, 5, 9]) (.exit 0))))
  (.seq (.block 1 (.seq (.seq (.post (.reg [⟨(some 12), .op (.mv (.tmp 0)), none⟩,
    ⟨(some 13), .op (.mv (.tmp 5)), none⟩,
    ⟨(some 14), .op (.iaddrS (.tmp 12) (.tmp 13) 2), none⟩,
    ⟨(some 15), .op (.faddr (.tmp 14) 0), none⟩,
    ⟨(some 16), .op (.load 1 false (.tmp 15)), none⟩,
    ⟨(some 17), .op (.mv (.tmp 1)), none⟩,
    ⟨(some 18), .op (.bin .neq (.tmp 16) (.tmp 17)), none⟩]) (.kill [12, 13, 14, 15, 16, 17]))
  (.cond (.tmp 18) (.ghost (.kill [0, 1, 5, 18]) (.seq (.reg [⟨(some 4), .op (.mv (.const (Value.int .i64 (-1)))), none⟩])
  .ret))
  (.ghost (.kill [18]) .skip)))
  (.seq (.post (.reg [⟨(some 19), .op (.mv (.tmp 1)), none⟩,
    ⟨(some 20), .op (.bin .add (.tmp 19) (.const (Value.int .i64 1))), none⟩,
    ⟨(some 1), .op (.mv (.tmp 20)), none⟩]) (.kill [19, 20]))
  (.seq (.seq (.post (.reg [⟨(some 21), .op (.mv (.tmp 0)), none⟩,
    ⟨(some 22), .op (.mv (.tmp 5)), none⟩,
    ⟨(some 23), .op (.iaddrS (.tmp 21) (.tmp 22) 2), none⟩,
    ⟨(some 24), .op (.faddr (.tmp 23) 1), none⟩,
    ⟨(some 25), .op (.load 1 false (.tmp 24)), none⟩,
    ⟨(some 26), .op (.mv (.tmp 1)), none⟩,
    ⟨(some 27), .op (.bin .neq (.tmp 25) (.tmp 26)), none⟩]) (.kill [21, 22, 23, 24, 25, 26]))
  (.cond (.tmp 27) (.ghost (.kill [0, 1, 5, 27]) (.seq (.reg [⟨(some 4), .op (.mv (.const (Value.int .i64 (-1)))), none⟩])
  .ret))
  (.ghost (.kill [27]) .skip)))
  (.post (.reg [⟨(some 28), .op (.mv (.tmp 1)), none⟩,
    ⟨(some 29), .op (.bin .add (.tmp 28) (.const (Value.int .i64 1))), none⟩,
    ⟨(some 1), .op (.mv (.tmp 29)), none⟩]) (.kill [28, 29]))))))
  (.post (.reg [⟨(some 10), .op (.mv (.tmp 5)), none⟩,
    ⟨(some 11), .op (.bin .add (.tmp 10) (.const (Value.int .i64 1))), none⟩,
    ⟨(some 5), .op (.mv (.tmp 11)), none⟩]) (.kill [10, 11]))))
def lo_laws_heldPushS_0 : AC := (.loop lb_laws_heldPushS_0)
def ac_laws_heldPushS : AC := (.seq (.post (.reg [⟨(some 4), .op (.mv (.const (Value.int .i64 0))), none⟩]) (.kill [4]))
  (.seq (.seq (.reg [⟨(some 5), .op (.mv (.const (Value.int .i64 0))), none⟩])
  (.block 0 lo_laws_heldPushS_0))
  (.ghost (.kill [0, 5]) (.seq (.post (.reg [⟨(some 30), .op (.mv (.tmp 1)), none⟩,
    ⟨(some 4), .op (.mv (.tmp 30)), none⟩]) (.kill [1, 30]))
  .ret))))
theorem cf_laws_heldPushS : chkFn Try.prog i_laws_heldPushS ac_laws_heldPushS [.tmp 4] 31 = true := by decide +kernel
def fa_laws_heldPushS : FnA := ⟨ac_laws_heldPushS, [.tmp 4], 31, false, true, [], .any, none⟩

/-- The checked code of laws heldPushSS. -/
def lb_laws_heldPushSS_0 : AC := (.seq (.seq (.post (.reg [⟨(some 6), .op (.mv (.tmp 5)), none⟩,
    ⟨(some 7), .op (.mv (.tmp 0)), none⟩,
    ⟨(some 8), .op (.len false (.tmp 7)), none⟩,
    ⟨(some 9), .op (.bin .lss (.tmp 6) (.tmp 8)), none⟩]) (.kill [6, 7, 8]))
  (.cond (.tmp 9) (.ghost (.kill [9]) .skip)
  (.ghost (.kill [0, 5, 9]) (.exit 0))))
  (.seq (.block 1 (.seq (.post (.reg [⟨(some 12), .op (.mv (.tmp 0)), none⟩,
    ⟨(some 13), .op (.mv (.tmp 5)), none⟩,
    ⟨(some 14), .op (.iaddrS (.tmp 12) (.tmp 13) 1), none⟩,
    ⟨(some 15), .op (.load 1 false (.tmp 14)), none⟩,
    ⟨(some 16), .op (.mv (.tmp 1)), none⟩,
    ⟨(some 17), .call (.func i_laws_heldPushS) [(.tmp 15), (.tmp 16)], none⟩,
    ⟨(some 1), .op (.mv (.tmp 17)), none⟩]) (.kill [12, 13, 14, 15, 16, 17]))
  (.seq (.post (.reg [⟨(some 18), .op (.mv (.tmp 1)), none⟩,
    ⟨(some 19), .op (.bin .lss (.tmp 18) (.const (Value.int .i64 0))), none⟩]) (.kill [18]))
  (.cond (.tmp 19) (.ghost (.kill [0, 1, 5, 19]) (.seq (.reg [⟨(some 4), .op (.mv (.const (Value.int .i64 (-1)))), none⟩])
  .ret))
  (.ghost (.kill [19]) .skip)))))
  (.post (.reg [⟨(some 10), .op (.mv (.tmp 5)), none⟩,
    ⟨(some 11), .op (.bin .add (.tmp 10) (.const (Value.int .i64 1))), none⟩,
    ⟨(some 5), .op (.mv (.tmp 11)), none⟩]) (.kill [10, 11]))))
def lo_laws_heldPushSS_0 : AC := (.loop lb_laws_heldPushSS_0)
def ac_laws_heldPushSS : AC := (.seq (.post (.reg [⟨(some 4), .op (.mv (.const (Value.int .i64 0))), none⟩]) (.kill [4]))
  (.seq (.seq (.reg [⟨(some 5), .op (.mv (.const (Value.int .i64 0))), none⟩])
  (.block 0 lo_laws_heldPushSS_0))
  (.ghost (.kill [0, 5]) (.seq (.post (.reg [⟨(some 20), .op (.mv (.tmp 1)), none⟩,
    ⟨(some 4), .op (.mv (.tmp 20)), none⟩]) (.kill [1, 20]))
  .ret))))
theorem cf_laws_heldPushSS : chkFn Try.prog i_laws_heldPushSS ac_laws_heldPushSS [.tmp 4] 21 = true := by decide +kernel
def fa_laws_heldPushSS : FnA := ⟨ac_laws_heldPushSS, [.tmp 4], 21, false, true, [], .any, none⟩

/-- The checked code of laws heldChecker. -/
def ac_laws_heldChecker : AC := (.seq (.post (.reg [⟨(some 2), .op (.box true (.tmp 0)), none⟩,
    ⟨(some 4), .op (.mv (.const (Value.int .i64 0))), none⟩]) (.kill [0, 4]))
  (.seq (.post (.reg [⟨(some 5), .op (.faddr (.tmp 2) 2), none⟩,
    ⟨(some 6), .op (.load 1 false (.tmp 5)), none⟩,
    ⟨(some 7), .op (.mv (.tmp 1)), none⟩,
    ⟨(some 8), .call (.func i_laws_heldBoolS) [(.tmp 6), (.tmp 7)], none⟩,
    ⟨(some 1), .op (.mv (.tmp 8)), none⟩]) (.kill [5, 6, 7, 8]))
  (.seq (.seq (.post (.reg [⟨(some 9), .op (.mv (.tmp 1)), none⟩,
    ⟨(some 10), .op (.bin .lss (.tmp 9) (.const (Value.int .i64 0))), none⟩]) (.kill [9]))
  (.cond (.tmp 10) (.ghost (.kill [1, 2, 10]) (.seq (.reg [⟨(some 4), .op (.mv (.const (Value.int .i64 (-1)))), none⟩])
  .ret))
  (.ghost (.kill [10]) .skip)))
  (.seq (.post (.reg [⟨(some 11), .op (.faddr (.tmp 2) 3), none⟩,
    ⟨(some 12), .op (.load 1 false (.tmp 11)), none⟩,
    ⟨(some 13), .op (.mv (.tmp 1)), none⟩,
    ⟨(some 14), .call (.func i_laws_heldPushSS) [(.tmp 12), (.tmp 13)], none⟩,
    ⟨(some 1), .op (.mv (.tmp 14)), none⟩]) (.kill [11, 12, 13, 14]))
  (.seq (.seq (.post (.reg [⟨(some 15), .op (.mv (.tmp 1)), none⟩,
    ⟨(some 16), .op (.bin .lss (.tmp 15) (.const (Value.int .i64 0))), none⟩]) (.kill [15]))
  (.cond (.tmp 16) (.ghost (.kill [1, 2, 16]) (.seq (.reg [⟨(some 4), .op (.mv (.const (Value.int .i64 (-1)))), none⟩])
  .ret))
  (.ghost (.kill [16]) .skip)))
  (.seq (.post (.reg [⟨(some 17), .op (.faddr (.tmp 2) 4), none⟩,
    ⟨(some 18), .op (.load 1 false (.tmp 17)), none⟩,
    ⟨(some 19), .op (.mv (.tmp 1)), none⟩,
    ⟨(some 20), .call (.func i_laws_heldInt64SSS) [(.tmp 18), (.tmp 19)], none⟩,
    ⟨(some 1), .op (.mv (.tmp 20)), none⟩]) (.kill [17, 18, 19, 20]))
  (.seq (.seq (.post (.reg [⟨(some 21), .op (.mv (.tmp 1)), none⟩,
    ⟨(some 22), .op (.bin .lss (.tmp 21) (.const (Value.int .i64 0))), none⟩]) (.kill [21]))
  (.cond (.tmp 22) (.ghost (.kill [1, 2, 22]) (.seq (.reg [⟨(some 4), .op (.mv (.const (Value.int .i64 (-1)))), none⟩])
  .ret))
  (.ghost (.kill [22]) .skip)))
  (.seq (.post (.reg [⟨(some 23), .op (.faddr (.tmp 2) 5), none⟩,
    ⟨(some 24), .op (.load 1 false (.tmp 23)), none⟩,
    ⟨(some 25), .op (.mv (.tmp 1)), none⟩,
    ⟨(some 26), .call (.func i_laws_heldInt64SS) [(.tmp 24), (.tmp 25)], none⟩,
    ⟨(some 1), .op (.mv (.tmp 26)), none⟩]) (.kill [2, 23, 24, 25, 26]))
  (.seq (.seq (.post (.reg [⟨(some 27), .op (.mv (.tmp 1)), none⟩,
    ⟨(some 28), .op (.bin .lss (.tmp 27) (.const (Value.int .i64 0))), none⟩]) (.kill [27]))
  (.cond (.tmp 28) (.ghost (.kill [1, 28]) (.seq (.reg [⟨(some 4), .op (.mv (.const (Value.int .i64 (-1)))), none⟩])
  .ret))
  (.ghost (.kill [28]) .skip)))
  (.seq (.post (.reg [⟨(some 29), .op (.mv (.tmp 1)), none⟩,
    ⟨(some 4), .op (.mv (.tmp 29)), none⟩]) (.kill [1, 29]))
  .ret))))))))))
theorem cf_laws_heldChecker : chkFn Try.prog i_laws_heldChecker ac_laws_heldChecker [.tmp 4] 30 = true := by decide +kernel
def fa_laws_heldChecker : FnA := ⟨ac_laws_heldChecker, [.tmp 4], 30, false, true, [(.agg [.any, .any, (.lst 1 .any), (.lst 1 (.lst 2 .any)), (.lst 1 (.lst 1 (.lst 1 .any))), (.lst 1 (.lst 1 .any))]), .any], .any, none⟩

end Go.Proofs.Ytoliadfdklfmfaa
