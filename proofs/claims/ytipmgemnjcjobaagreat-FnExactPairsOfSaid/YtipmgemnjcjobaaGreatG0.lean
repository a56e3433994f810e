/- The code of the functions, checked against the loaded program; printed by a program (gen2.py). -/
import Derived.Test.YtipmgemnjcjobaaGreatProg
import Derived.Test.YtipmgemnjcjobaaGreatAw25
set_option linter.unusedVariables false
set_option maxRecDepth 100000
namespace Go.Proofs.YtipmgemnjcjobaaGreat
open Aw

/-! The numbers of the functions. -/
def i_laws_FnExactPairsOf : FuncId := 3
def i_laws_szChoices : FuncId := 6
def i_spec_PairsOf : FuncId := 7
def i_laws_toChoices : FuncId := 8
def i_impl_PairsOf : FuncId := 9
def i_laws_eqInt64SS : FuncId := 10
def i_laws_eqChoices : FuncId := 11
def i_laws_markChoices : FuncId := 12
def i_laws_markInt64SS : FuncId := 13
def i_laws_heldInt64SS : FuncId := 14
def i_laws_szInt64S : FuncId := 30
def i_laws_szBoolS : FuncId := 31
def i_laws_szPushSSS : FuncId := 32
def i_laws_szInt64SSSS : FuncId := 33
def i_laws_szInt64SSS : FuncId := 34
def i_spec_l03Given : FuncId := 35
def i_spec_l01Matched : FuncId := 36
def i_spec_l03Run : FuncId := 37
def i_spec_l03List : FuncId := 38
def i_laws_toInt64S : FuncId := 39
def i_laws_toBoolS : FuncId := 40
def i_laws_toPushSSS : FuncId := 41
def i_laws_toInt64SSSS : FuncId := 42
def i_laws_toInt64SSS : FuncId := 43
def i_impl_ValidChoices : FuncId := 44
def i_impl_ValidWord : FuncId := 45
def i_impl_isMatched : FuncId := 46
def i_impl_Choices_known : FuncId := 47
def i_impl_states : FuncId := 48
def i_laws_eqInt64S : FuncId := 49
def i_laws_eqBoolS : FuncId := 50
def i_laws_eqPushSSS : FuncId := 51
def i_laws_eqInt64SSSS : FuncId := 52
def i_laws_eqInt64SSS : FuncId := 53
def i_laws_markInt64S : FuncId := 54
def i_laws_markBoolS : FuncId := 55
def i_laws_markPushSSS : FuncId := 56
def i_laws_markInt64SSSS : FuncId := 57
def i_laws_markInt64SSS : FuncId := 58
def i_laws_heldInt64S : FuncId := 59
def i_impl_within : FuncId := 60
def i_spec_l03Ok : FuncId := 70
def i_spec_l03Begin : FuncId := 71
def i_spec_l03Bits : FuncId := 72
def i_spec_l03Back : FuncId := 76
def i_impl_Choices_start : FuncId := 81
def i_impl_Choices_call : FuncId := 82
def i_impl_Choices_inner : FuncId := 83
def i_impl_Choices_free : FuncId := 84
def i_impl_Choices_back : FuncId := 85
def i_laws_eqPushSS : FuncId := 92
def i_laws_markPushSS : FuncId := 93
def i_laws_szPushSS : FuncId := 97
def i_laws_szInt64SS : FuncId := 98
def i_spec_l01Ok : FuncId := 99
def i_spec_l01Pending : FuncId := 100
def i_spec_l01Symbol : FuncId := 101
def i_spec_l03Called : FuncId := 102
def i_spec_l03Bottom : FuncId := 103
def i_spec_l03Inner : FuncId := 104
def i_laws_toPushSS : FuncId := 105
def i_laws_toInt64SS : FuncId := 106
def i_impl_size_bool : FuncId := 107
def i_impl_isRising : FuncId := 108
def i_impl_size_L_L_impl_Push : FuncId := 109
def i_impl_size_L_L_L_int64 : FuncId := 110
def i_impl_size_L_L_int64 : FuncId := 111
def i_impl_comparePushes : FuncId := 112
def i_impl_size_L_int64 : FuncId := 113
def i_slices_ContainsFunc_L_L_int64 : FuncId := 114
def i_impl_ValidChoices_1 : FuncId := 115
def i_strings_IndexByte : FuncId := 116
def i_impl_match : FuncId := 117
def i_impl_kindOf : FuncId := 118
def i_impl_isCall : FuncId := 119
def i_impl_isInner : FuncId := 120
def i_impl_isReturn : FuncId := 121
def i_spec_l00In : FuncId := 128
def i_spec_l00Rises : FuncId := 129
def i_spec_l03Pushes : FuncId := 130
def i_spec_l03Moved : FuncId := 131
def i_impl_Choices_same : FuncId := 133
def i_impl_bits : FuncId := 134
def i_impl_all : FuncId := 135
def i_impl_Choices_call_1 : FuncId := 136
def i_impl_Choices_inner_1 : FuncId := 137
def i_impl_Choices_free_1 : FuncId := 138
def i_impl_Choices_back_1 : FuncId := 139
def i_impl_Choices_back_1_1 : FuncId := 140
def i_laws_eqPushS : FuncId := 143
def i_laws_markPushS : FuncId := 144
def i_laws_szPushS : FuncId := 146
def i_spec_l01Partners : FuncId := 147
def i_spec_l01Return : FuncId := 148
def i_spec_l01Call : FuncId := 149
def i_spec_l03Image : FuncId := 150
def i_laws_toPushS : FuncId := 151
def i_cmp_Or_int : FuncId := 152
def i_cmp_Compare_int64 : FuncId := 153
def i_slices_IndexFunc_L_L_int64 : FuncId := 154
def i_internal_stringslite_IndexByte : FuncId := 155
def i_impl_size_int64 : FuncId := 156
def i_laws_eqPush : FuncId := 164
def i_laws_toPush : FuncId := 165
def i_cmp_isNaN_int64 : FuncId := 166
def i_internal_bytealg_IndexByteString : FuncId := 167

/-- The checked code of laws szInt64S. -/
def ac_laws_szInt64S : AC := (.seq (.post (.reg [⟨(some 4), .op (.mv (.const (Value.int .i64 0))), none⟩]) (.kill [4]))
  (.seq (.post (.reg [⟨(some 5), .op (.mv (.tmp 1)), none⟩,
    ⟨(some 6), .op (.mv (.tmp 0)), none⟩,
    ⟨(some 7), .op (.len false (.tmp 6)), none⟩,
    ⟨(some 8), .op (.bin .sub (.tmp 5) (.tmp 7)), none⟩,
    ⟨(some 1), .op (.mv (.tmp 8)), none⟩]) (.kill [0, 5, 6, 7, 8]))
  (.seq (.seq (.post (.reg [⟨(some 9), .op (.mv (.tmp 1)), none⟩,
    ⟨(some 10), .op (.bin .lss (.tmp 9) (.const (Value.int .i64 0))), none⟩]) (.kill [9]))
  (.cond (.tmp 10) (.ghost (.kill [1, 10]) (.seq (.reg [⟨(some 4), .op (.mv (.const (Value.int .i64 (-1)))), none⟩])
  .ret))
  (.ghost (.kill [10]) .skip)))
  (.seq (.post (.reg [⟨(some 11), .op (.mv (.tmp 1)), none⟩,
    ⟨(some 4), .op (.mv (.tmp 11)), none⟩]) (.kill [1, 11]))
  .ret))))
theorem cf_laws_szInt64S : chkFn Tryz.prog i_laws_szInt64S ac_laws_szInt64S [.tmp 4] 12 = true := by decide +kernel
def fa_laws_szInt64S : FnA := ⟨ac_laws_szInt64S, [.tmp 4], 12, false, true, [], .any, none⟩

/-- The checked code of laws szBoolS. -/
def ac_laws_szBoolS : AC := (.seq (.post (.reg [⟨(some 4), .op (.mv (.const (Value.int .i64 0))), none⟩]) (.kill [4]))
  (.seq (.post (.reg [⟨(some 5), .op (.mv (.tmp 1)), none⟩,
    ⟨(some 6), .op (.mv (.tmp 0)), none⟩,
    ⟨(some 7), .op (.len false (.tmp 6)), none⟩,
    ⟨(some 8), .op (.bin .sub (.tmp 5) (.tmp 7)), none⟩,
    ⟨(some 1), .op (.mv (.tmp 8)), none⟩]) (.kill [0, 5, 6, 7, 8]))
  (.seq (.seq (.post (.reg [⟨(some 9), .op (.mv (.tmp 1)), none⟩,
    ⟨(some 10), .op (.bin .lss (.tmp 9) (.const (Value.int .i64 0))), none⟩]) (.kill [9]))
  (.cond (.tmp 10) (.ghost (.kill [1, 10]) (.seq (.reg [⟨(some 4), .op (.mv (.const (Value.int .i64 (-1)))), none⟩])
  .ret))
  (.ghost (.kill [10]) .skip)))
  (.seq (.post (.reg [⟨(some 11), .op (.mv (.tmp 1)), none⟩,
    ⟨(some 4), .op (.mv (.tmp 11)), none⟩]) (.kill [1, 11]))
  .ret))))
theorem cf_laws_szBoolS : chkFn Tryz.prog i_laws_szBoolS ac_laws_szBoolS [.tmp 4] 12 = true := by decide +kernel
def fa_laws_szBoolS : FnA := ⟨ac_laws_szBoolS, [.tmp 4], 12, false, true, [], .any, none⟩

/-- The checked code of laws szPushS. -/
def ac_laws_szPushS : AC := (.seq (.post (.reg [⟨(some 4), .op (.mv (.const (Value.int .i64 0))), none⟩]) (.kill [4]))
  (.seq (.post (.reg [⟨(some 5), .op (.mv (.tmp 1)), none⟩,
    ⟨(some 6), .op (.mv (.tmp 0)), none⟩,
    ⟨(some 7), .op (.len false (.tmp 6)), none⟩,
    ⟨(some 8), .op (.bin .sub (.tmp 5) (.tmp 7)), none⟩,
    ⟨(some 1), .op (.mv (.tmp 8)), none⟩]) (.kill [0, 5, 6, 7, 8]))
  (.seq (.seq (.post (.reg [⟨(some 9), .op (.mv (.tmp 1)), none⟩,
    ⟨(some 10), .op (.bin .lss (.tmp 9) (.const (Value.int .i64 0))), none⟩]) (.kill [9]))
  (.cond (.tmp 10) (.ghost (.kill [1, 10]) (.seq (.reg [⟨(some 4), .op (.mv (.const (Value.int .i64 (-1)))), none⟩])
  .ret))
  (.ghost (.kill [10]) .skip)))
  (.seq (.post (.reg [⟨(some 11), .op (.mv (.tmp 1)), none⟩,
    ⟨(some 4), .op (.mv (.tmp 11)), none⟩]) (.kill [1, 11]))
  .ret))))
theorem cf_laws_szPushS : chkFn Tryz.prog i_laws_szPushS ac_laws_szPushS [.tmp 4] 12 = true := by decide +kernel
def fa_laws_szPushS : FnA := ⟨ac_laws_szPushS, [.tmp 4], 12, false, true, [], .any, none⟩

/-- The checked code of laws szPushSS. -/
def lb_laws_szPushSS_0 : AC := (.seq (.seq (.post (.reg [⟨(some 12), .op (.mv (.tmp 5)), none⟩,
    ⟨(some 13), .op (.mv (.tmp 0)), none⟩,
    ⟨(some 14), .op (.len false (.tmp 13)), none⟩,
    ⟨(some 15), .op (.bin .lss (.tmp 12) (.tmp 14)), none⟩]) (.kill [12, 13, 14]))
  (.cond (.tmp 15) (.ghost (.kill [15]) .skip)
  (.ghost (.kill [0, 5, 15]) (.exit 0))))
  (.seq (.block 1 (.seq (.post (.reg [⟨(some 18), .op (.mv (.tmp 0)), none⟩,
    ⟨(some 19), .op (.mv (.tmp 5)), none⟩,
    ⟨(some 20), .op (.iaddrS (.tmp 18) (.tmp 19) 1), none⟩,
    ⟨(some 21), .op (.load 1 false (.tmp 20)), none⟩,
    ⟨(some 22), .op (.mv (.tmp 1)), none⟩,
    ⟨(some 23), .call (.func i_laws_szPushS) [(.tmp 21), (.tmp 22)], none⟩,
    ⟨(some 1), .op (.mv (.tmp 23)), none⟩]) (.kill [18, 19, 20, 21, 22, 23]))
  (.seq (.post (.reg [⟨(some 24), .op (.mv (.tmp 1)), none⟩,
    ⟨(some 25), .op (.bin .lss (.tmp 24) (.const (Value.int .i64 0))), none⟩]) (.kill [24]))
  (.cond (.tmp 25) (.ghost (.kill [0, 1, 5, 25]) (.seq (.reg [⟨(some 4), .op (.mv (.const (Value.int .i64 (-1)))), none⟩])
  .ret))
  (.ghost (.kill [25]) .skip)))))
  (.post (.reg [⟨(some 16), .op (.mv (.tmp 5)), none⟩,
    ⟨(some 17), .op (.bin .add (.tmp 16) (.const (Value.int .i64 1))), none⟩,
    ⟨(some 5), .op (.mv (.tmp 17)), none⟩]) (.kill [16, 17]))))
def lo_laws_szPushSS_0 : AC := (.loop lb_laws_szPushSS_0)
def ac_laws_szPushSS : AC := (.seq (.post (.reg [⟨(some 4), .op (.mv (.const (Value.int .i64 0))), none⟩]) (.kill [4]))
  (.seq (.post (.reg [⟨(some 6), .op (.mv (.tmp 1)), none⟩,
    ⟨(some 7), .op (.mv (.tmp 0)), none⟩,
    ⟨(some 8), .op (.len false (.tmp 7)), none⟩,
    ⟨(some 9), .op (.bin .sub (.tmp 6) (.tmp 8)), none⟩,
    ⟨(some 1), .op (.mv (.tmp 9)), none⟩]) (.kill [6, 7, 8, 9]))
  (.seq (.seq (.post (.reg [⟨(some 10), .op (.mv (.tmp 1)), none⟩,
    ⟨(some 11), .op (.bin .lss (.tmp 10) (.const (Value.int .i64 0))), none⟩]) (.kill [10]))
  (.cond (.tmp 11) (.ghost (.kill [0, 1, 11]) (.seq (.reg [⟨(some 4), .op (.mv (.const (Value.int .i64 (-1)))), none⟩])
  .ret))
  (.ghost (.kill [11]) .skip)))
  (.seq (.seq (.reg [⟨(some 5), .op (.mv (.const (Value.int .i64 0))), none⟩])
  (.block 0 lo_laws_szPushSS_0))
  (.ghost (.kill [0, 5]) (.seq (.post (.reg [⟨(some 26), .op (.mv (.tmp 1)), none⟩,
    ⟨(some 4), .op (.mv (.tmp 26)), none⟩]) (.kill [1, 26]))
  .ret))))))
theorem cf_laws_szPushSS : chkFn Tryz.prog i_laws_szPushSS ac_laws_szPushSS [.tmp 4] 27 = true := by decide +kernel
def fa_laws_szPushSS : FnA := ⟨ac_laws_szPushSS, [.tmp 4], 27, false, true, [], .any, none⟩

/-- The checked code of laws szPushSSS. -/
def lb_laws_szPushSSS_0 : AC := (.seq (.seq (.post (.reg [⟨(some 12), .op (.mv (.tmp 5)), none⟩,
    ⟨(some 13), .op (.mv (.tmp 0)), none⟩,
    ⟨(some 14), .op (.len false (.tmp 13)), none⟩,
    ⟨(some 15), .op (.bin .lss (.tmp 12) (.tmp 14)), none⟩]) (.kill [12, 13, 14]))
  (.cond (.tmp 15) (.ghost (.kill [15]) .skip)
  (.ghost (.kill [0, 5, 15]) (.exit 0))))
  (.seq (.block 1 (.seq (.post (.reg [⟨(some 18), .op (.mv (.tmp 0)), none⟩,
    ⟨(some 19), .op (.mv (.tmp 5)), none⟩,
    ⟨(some 20), .op (.iaddrS (.tmp 18) (.tmp 19) 1), none⟩,
    ⟨(some 21), .op (.load 1 false (.tmp 20)), none⟩,
    ⟨(some 22), .op (.mv (.tmp 1)), none⟩,
    ⟨(some 23), .call (.func i_laws_szPushSS) [(.tmp 21), (.tmp 22)], none⟩,
    ⟨(some 1), .op (.mv (.tmp 23)), none⟩]) (.kill [18, 19, 20, 21, 22, 23]))
  (.seq (.post (.reg [⟨(some 24), .op (.mv (.tmp 1)), none⟩,
    ⟨(some 25), .op (.bin .lss (.tmp 24) (.const (Value.int .i64 0))), none⟩]) (.kill [24]))
  (.cond (.tmp 25) (.ghost (.kill [0, 1, 5, 25]) (.seq (.reg [⟨(some 4), .op (.mv (.const (Value.int .i64 (-1)))), none⟩])
  .ret))
  (.ghost (.kill [25]) .skip)))))
  (.post (.reg [⟨(some 16), .op (.mv (.tmp 5)), none⟩,
    ⟨(some 17), .op (.bin .add (.tmp 16) (.const (Value.int .i64 1))), none⟩,
    ⟨(some 5), .op (.mv (.tmp 17)), none⟩]) (.kill [16, 17]))))
def lo_laws_szPushSSS_0 : AC := (.loop lb_laws_szPushSSS_0)
def ac_laws_szPushSSS : AC := (.seq (.post (.reg [⟨(some 4), .op (.mv (.const (Value.int .i64 0))), none⟩]) (.kill [4]))
  (.seq (.post (.reg [⟨(some 6), .op (.mv (.tmp 1)), none⟩,
    ⟨(some 7), .op (.mv (.tmp 0)), none⟩,
    ⟨(some 8), .op (.len false (.tmp 7)), none⟩,
    ⟨(some 9), .op (.bin .sub (.tmp 6) (.tmp 8)), none⟩,
    ⟨(some 1), .op (.mv (.tmp 9)), none⟩]) (.kill [6, 7, 8, 9]))
  (.seq (.seq (.post (.reg [⟨(some 10), .op (.mv (.tmp 1)), none⟩,
    ⟨(some 11), .op (.bin .lss (.tmp 10) (.const (Value.int .i64 0))), none⟩]) (.kill [10]))
  (.cond (.tmp 11) (.ghost (.kill [0, 1, 11]) (.seq (.reg [⟨(some 4), .op (.mv (.const (Value.int .i64 (-1)))), none⟩])
  .ret))
  (.ghost (.kill [11]) .skip)))
  (.seq (.seq (.reg [⟨(some 5), .op (.mv (.const (Value.int .i64 0))), none⟩])
  (.block 0 lo_laws_szPushSSS_0))
  (.ghost (.kill [0, 5]) (.seq (.post (.reg [⟨(some 26), .op (.mv (.tmp 1)), none⟩,
    ⟨(some 4), .op (.mv (.tmp 26)), none⟩]) (.kill [1, 26]))
  .ret))))))
theorem cf_laws_szPushSSS : chkFn Tryz.prog i_laws_szPushSSS ac_laws_szPushSSS [.tmp 4] 27 = true := by decide +kernel
def fa_laws_szPushSSS : FnA := ⟨ac_laws_szPushSSS, [.tmp 4], 27, false, true, [], .any, none⟩

/-- The checked code of laws szInt64SS. -/
def lb_laws_szInt64SS_0 : AC := (.seq (.seq (.post (.reg [⟨(some 12), .op (.mv (.tmp 5)), none⟩,
    ⟨(some 13), .op (.mv (.tmp 0)), none⟩,
    ⟨(some 14), .op (.len false (.tmp 13)), none⟩,
    ⟨(some 15), .op (.bin .lss (.tmp 12) (.tmp 14)), none⟩]) (.kill [12, 13, 14]))
  (.cond (.tmp 15) (.ghost (.kill [15]) .skip)
  (.ghost (.kill [0, 5, 15]) (.exit 0))))
  (.seq (.block 1 (.seq (.post (.reg [⟨(some 18), .op (.mv (.tmp 0)), none⟩,
    ⟨(some 19), .op (.mv (.tmp 5)), none⟩,
    ⟨(some 20), .op (.iaddrS (.tmp 18) (.tmp 19) 1), none⟩,
    ⟨(some 21), .op (.load 1 false (.tmp 20)), none⟩,
    ⟨(some 22), .op (.mv (.tmp 1)), none⟩,
    ⟨(some 23), .call (.func i_laws_szInt64S) [(.tmp 21), (.tmp 22)], none⟩,
    ⟨(some 1), .op (.mv (.tmp 23)), none⟩]) (.kill [18, 19, 20, 21, 22, 23]))
  (.seq (.post (.reg [⟨(some 24), .op (.mv (.tmp 1)), none⟩,
    ⟨(some 25), .op (.bin .lss (.tmp 24) (.const (Value.int .i64 0))), none⟩]) (.kill [24]))
  (.cond (.tmp 25) (.ghost (.kill [0, 1, 5, 25]) (.seq (.reg [⟨(some 4), .op (.mv (.const (Value.int .i64 (-1)))), none⟩])
  .ret))
  (.ghost (.kill [25]) .skip)))))
  (.post (.reg [⟨(some 16), .op (.mv (.tmp 5)), none⟩,
    ⟨(some 17), .op (.bin .add (.tmp 16) (.const (Value.int .i64 1))), none⟩,
    ⟨(some 5), .op (.mv (.tmp 17)), none⟩]) (.kill [16, 17]))))
def lo_laws_szInt64SS_0 : AC := (.loop lb_laws_szInt64SS_0)
def ac_laws_szInt64SS : AC := (.seq (.post (.reg [⟨(some 4), .op (.mv (.const (Value.int .i64 0))), none⟩]) (.kill [4]))
  (.seq (.post (.reg [⟨(some 6), .op (.mv (.tmp 1)), none⟩,
    ⟨(some 7), .op (.mv (.tmp 0)), none⟩,
    ⟨(some 8), .op (.len false (.tmp 7)), none⟩,
    ⟨(some 9), .op (.bin .sub (.tmp 6) (.tmp 8)), none⟩,
    ⟨(some 1), .op (.mv (.tmp 9)), none⟩]) (.kill [6, 7, 8, 9]))
  (.seq (.seq (.post (.reg [⟨(some 10), .op (.mv (.tmp 1)), none⟩,
    ⟨(some 11), .op (.bin .lss (.tmp 10) (.const (Value.int .i64 0))), none⟩]) (.kill [10]))
  (.cond (.tmp 11) (.ghost (.kill [0, 1, 11]) (.seq (.reg [⟨(some 4), .op (.mv (.const (Value.int .i64 (-1)))), none⟩])
  .ret))
  (.ghost (.kill [11]) .skip)))
  (.seq (.seq (.reg [⟨(some 5), .op (.mv (.const (Value.int .i64 0))), none⟩])
  (.block 0 lo_laws_szInt64SS_0))
  (.ghost (.kill [0, 5]) (.seq (.post (.reg [⟨(some 26), .op (.mv (.tmp 1)), none⟩,
    ⟨(some 4), .op (.mv (.tmp 26)), none⟩]) (.kill [1, 26]))
  .ret))))))
theorem cf_laws_szInt64SS : chkFn Tryz.prog i_laws_szInt64SS ac_laws_szInt64SS [.tmp 4] 27 = true := by decide +kernel
def fa_laws_szInt64SS : FnA := ⟨ac_laws_szInt64SS, [.tmp 4], 27, false, true, [], .any, none⟩

/-- The checked code of laws szInt64SSS. -/
def lb_laws_szInt64SSS_0 : AC := (.seq (.seq (.post (.reg [⟨(some 12), .op (.mv (.tmp 5)), none⟩,
    ⟨(some 13), .op (.mv (.tmp 0)), none⟩,
    ⟨(some 14), .op (.len false (.tmp 13)), none⟩,
    ⟨(some 15), .op (.bin .lss (.tmp 12) (.tmp 14)), none⟩]) (.kill [12, 13, 14]))
  (.cond (.tmp 15) (.ghost (.kill [15]) .skip)
  (.ghost (.kill [0, 5, 15]) (.exit 0))))
  (.seq (.block 1 (.seq (.post (.reg [⟨(some 18), .op (.mv (.tmp 0)), none⟩,
    ⟨(some 19), .op (.mv (.tmp 5)), none⟩,
    ⟨(some 20), .op (.iaddrS (.tmp 18) (.tmp 19) 1), none⟩,
    ⟨(some 21), .op (.load 1 false (.tmp 20)), none⟩,
    ⟨(some 22), .op (.mv (.tmp 1)), none⟩,
    ⟨(some 23), .call (.func i_laws_szInt64SS) [(.tmp 21), (.tmp 22)], none⟩,
    ⟨(some 1), .op (.mv (.tmp 23)), none⟩]) (.kill [18, 19, 20, 21, 22, 23]))
  (.seq (.post (.reg [⟨(some 24), .op (.mv (.tmp 1)), none⟩,
    ⟨(some 25), .op (.bin .lss (.tmp 24) (.const (Value.int .i64 0))), none⟩]) (.kill [24]))
  (.cond (.tmp 25) (.ghost (.kill [0, 1, 5, 25]) (.seq (.reg [⟨(some 4), .op (.mv (.const (Value.int .i64 (-1)))), none⟩])
  .ret))
  (.ghost (.kill [25]) .skip)))))
  (.post (.reg [⟨(some 16), .op (.mv (.tmp 5)), none⟩,
    ⟨(some 17), .op (.bin .add (.tmp 16) (.const (Value.int .i64 1))), none⟩,
    ⟨(some 5), .op (.mv (.tmp 17)), none⟩]) (.kill [16, 17]))))
def lo_laws_szInt64SSS_0 : AC := (.loop lb_laws_szInt64SSS_0)
def ac_laws_szInt64SSS : AC := (.seq (.post (.reg [⟨(some 4), .op (.mv (.const (Value.int .i64 0))), none⟩]) (.kill [4]))
  (.seq (.post (.reg [⟨(some 6), .op (.mv (.tmp 1)), none⟩,
    ⟨(some 7), .op (.mv (.tmp 0)), none⟩,
    ⟨(some 8), .op (.len false (.tmp 7)), none⟩,
    ⟨(some 9), .op (.bin .sub (.tmp 6) (.tmp 8)), none⟩,
    ⟨(some 1), .op (.mv (.tmp 9)), none⟩]) (.kill [6, 7, 8, 9]))
  (.seq (.seq (.post (.reg [⟨(some 10), .op (.mv (.tmp 1)), none⟩,
    ⟨(some 11), .op (.bin .lss (.tmp 10) (.const (Value.int .i64 0))), none⟩]) (.kill [10]))
  (.cond (.tmp 11) (.ghost (.kill [0, 1, 11]) (.seq (.reg [⟨(some 4), .op (.mv (.const (Value.int .i64 (-1)))), none⟩])
  .ret))
  (.ghost (.kill [11]) .skip)))
  (.seq (.seq (.reg [⟨(some 5), .op (.mv (.const (Value.int .i64 0))), none⟩])
  (.block 0 lo_laws_szInt64SSS_0))
  (.ghost (.kill [0, 5]) (.seq (.post (.reg [⟨(some 26), .op (.mv (.tmp 1)), none⟩,
    ⟨(some 4), .op (.mv (.tmp 26)), none⟩]) (.kill [1, 26]))
  .ret))))))
theorem cf_laws_szInt64SSS : chkFn Tryz.prog i_laws_szInt64SSS ac_laws_szInt64SSS [.tmp 4] 27 = true := by decide +kernel
def fa_laws_szInt64SSS : FnA := ⟨ac_laws_szInt64SSS, [.tmp 4], 27, false, true, [], .any, none⟩

/-- The checked code of laws szInt64SSSS. -/
def lb_laws_szInt64SSSS_0 : AC := (.seq (.seq (.post (.reg [⟨(some 12), .op (.mv (.tmp 5)), none⟩,
    ⟨(some 13), .op (.mv (.tmp 0)), none⟩,
    ⟨(some 14), .op (.len false (.tmp 13)), none⟩,
    ⟨(some 15), .op (.bin .lss (.tmp 12) (.tmp 14)), none⟩]) (.kill [12, 13, 14]))
  (.cond (.tmp 15) (.ghost (.kill [15]) .skip)
  (.ghost (.kill [0, 5, 15]) (.exit 0))))
  (.seq (.block 1 (.seq (.post (.reg [⟨(some 18), .op (.mv (.tmp 0)), none⟩,
    ⟨(some 19), .op (.mv (.tmp 5)), none⟩,
    ⟨(some 20), .op (.iaddrS (.tmp 18) (.tmp 19) 1), none⟩,
    ⟨(some 21), .op (.load 1 false (.tmp 20)), none⟩,
    ⟨(some 22), .op (.mv (.tmp 1)), none⟩,
    ⟨(some 23), .call (.func i_laws_szInt64SSS) [(.tmp 21), (.tmp 22)], none⟩,
    ⟨(some 1), .op (.mv (.tmp 23)), none⟩]) (.kill [18, 19, 20, 21, 22, 23]))
  (.seq (.post (.reg [⟨(some 24), .op (.mv (.tmp 1)), none⟩,
    ⟨(some 25), .op (.bin .lss (.tmp 24) (.const (Value.int .i64 0))), none⟩]) (.kill [24]))
  (.cond (.tmp 25) (.ghost (.kill [0, 1, 5, 25]) (.seq (.reg [⟨(some 4), .op (.mv (.const (Value.int .i64 (-1)))), none⟩])
  .ret))
  (.ghost (.kill [25]) .skip)))))
  (.post (.reg [⟨(some 16), .op (.mv (.tmp 5)), none⟩,
    ⟨(some 17), .op (.bin .add (.tmp 16) (.const (Value.int .i64 1))), none⟩,
    ⟨(some 5), .op (.mv (.tmp 17)), none⟩]) (.kill [16, 17]))))
def lo_laws_szInt64SSSS_0 : AC := (.loop lb_laws_szInt64SSSS_0)
def ac_laws_szInt64SSSS : AC := (.seq (.post (.reg [⟨(some 4), .op (.mv (.const (Value.int .i64 0))), none⟩]) (.kill [4]))
  (.seq (.post (.reg [⟨(some 6), .op (.mv (.tmp 1)), none⟩,
    ⟨(some 7), .op (.mv (.tmp 0)), none⟩,
    ⟨(some 8), .op (.len false (.tmp 7)), none⟩,
    ⟨(some 9), .op (.bin .sub (.tmp 6) (.tmp 8)), none⟩,
    ⟨(some 1), .op (.mv (.tmp 9)), none⟩]) (.kill [6, 7, 8, 9]))
  (.seq (.seq (.post (.reg [⟨(some 10), .op (.mv (.tmp 1)), none⟩,
    ⟨(some 11), .op (.bin .lss (.tmp 10) (.const (Value.int .i64 0))), none⟩]) (.kill [10]))
  (.cond (.tmp 11) (.ghost (.kill [0, 1, 11]) (.seq (.reg [⟨(some 4), .op (.mv (.const (Value.int .i64 (-1)))), none⟩])
  .ret))
  (.ghost (.kill [11]) .skip)))
  (.seq (.seq (.reg [⟨(some 5), .op (.mv (.const (Value.int .i64 0))), none⟩])
  (.block 0 lo_laws_szInt64SSSS_0))
  (.ghost (.kill [0, 5]) (.seq (.post (.reg [⟨(some 26), .op (.mv (.tmp 1)), none⟩,
    ⟨(some 4), .op (.mv (.tmp 26)), none⟩]) (.kill [1, 26]))
  .ret))))))
theorem cf_laws_szInt64SSSS : chkFn Tryz.prog i_laws_szInt64SSSS ac_laws_szInt64SSSS [.tmp 4] 27 = true := by decide +kernel
def fa_laws_szInt64SSSS : FnA := ⟨ac_laws_szInt64SSSS, [.tmp 4], 27, false, true, [], .any, none⟩

/-- The checked code of laws szChoices. -/
def ac_laws_szChoices : AC := (.seq (.post (.reg [⟨(some 2), .op (.box true (.tmp 0)), none⟩,
    ⟨(some 4), .op (.mv (.const (Value.int .i64 0))), none⟩]) (.kill [0, 4]))
  (.seq (.post (.reg [⟨(some 5), .op (.faddr (.tmp 2) 1), none⟩,
    ⟨(some 6), .op (.load 1 false (.tmp 5)), none⟩,
    ⟨(some 7), .op (.mv (.tmp 1)), none⟩,
    ⟨(some 8), .call (.func i_laws_szInt64S) [(.tmp 6), (.tmp 7)], none⟩,
    ⟨(some 1), .op (.mv (.tmp 8)), none⟩]) (.kill [5, 6, 7, 8]))
  (.seq (.seq (.post (.reg [⟨(some 9), .op (.mv (.tmp 1)), none⟩,
    ⟨(some 10), .op (.bin .lss (.tmp 9) (.const (Value.int .i64 0))), none⟩]) (.kill [9]))
  (.cond (.tmp 10) (.ghost (.kill [1, 2, 10]) (.seq (.reg [⟨(some 4), .op (.mv (.const (Value.int .i64 (-1)))), none⟩])
  .ret))
  (.ghost (.kill [10]) .skip)))
  (.seq (.post (.reg [⟨(some 11), .op (.faddr (.tmp 2) 2), none⟩,
    ⟨(some 12), .op (.load 1 false (.tmp 11)), none⟩,
    ⟨(some 13), .op (.mv (.tmp 1)), none⟩,
    ⟨(some 14), .call (.func i_laws_szBoolS) [(.tmp 12), (.tmp 13)], none⟩,
    ⟨(some 1), .op (.mv (.tmp 14)), none⟩]) (.kill [11, 12, 13, 14]))
  (.seq (.seq (.post (.reg [⟨(some 15), .op (.mv (.tmp 1)), none⟩,
    ⟨(some 16), .op (.bin .lss (.tmp 15) (.const (Value.int .i64 0))), none⟩]) (.kill [15]))
  (.cond (.tmp 16) (.ghost (.kill [1, 2, 16]) (.seq (.reg [⟨(some 4), .op (.mv (.const (Value.int .i64 (-1)))), none⟩])
  .ret))
  (.ghost (.kill [16]) .skip)))
  (.seq (.post (.reg [⟨(some 17), .op (.faddr (.tmp 2) 3), none⟩,
    ⟨(some 18), .op (.load 1 false (.tmp 17)), none⟩,
    ⟨(some 19), .op (.mv (.tmp 1)), none⟩,
    ⟨(some 20), .call (.func i_laws_szPushSSS) [(.tmp 18), (.tmp 19)], none⟩,
    ⟨(some 1), .op (.mv (.tmp 20)), none⟩]) (.kill [17, 18, 19, 20]))
  (.seq (.seq (.post (.reg [⟨(some 21), .op (.mv (.tmp 1)), none⟩,
    ⟨(some 22), .op (.bin .lss (.tmp 21) (.const (Value.int .i64 0))), none⟩]) (.kill [21]))
  (.cond (.tmp 22) (.ghost (.kill [1, 2, 22]) (.seq (.reg [⟨(some 4), .op (.mv (.const (Value.int .i64 (-1)))), none⟩])
  .ret))
  (.ghost (.kill [22]) .skip)))
  (.seq (.post (.reg [⟨(some 23), .op (.faddr (.tmp 2) 4), none⟩,
    ⟨(some 24), .op (.load 1 false (.tmp 23)), none⟩,
    ⟨(some 25), .op (.mv (.tmp 1)), none⟩,
    ⟨(some 26), .call (.func i_laws_szInt64SSSS) [(.tmp 24), (.tmp 25)], none⟩,
    ⟨(some 1), .op (.mv (.tmp 26)), none⟩]) (.kill [23, 24, 25, 26]))
  (.seq (.seq (.post (.reg [⟨(some 27), .op (.mv (.tmp 1)), none⟩,
    ⟨(some 28), .op (.bin .lss (.tmp 27) (.const (Value.int .i64 0))), none⟩]) (.kill [27]))
  (.cond (.tmp 28) (.ghost (.kill [1, 2, 28]) (.seq (.reg [⟨(some 4), .op (.mv (.const (Value.int .i64 (-1)))), none⟩])
  .ret))
  (.ghost (.kill [28]) .skip)))
  (.seq (.post (.reg [⟨(some 29), .op (.faddr (.tmp 2) 5), none⟩,
    ⟨(some 30), .op (.load 1 false (.tmp 29)), none⟩,
    ⟨(some 31), .op (.mv (.tmp 1)), none⟩,
    ⟨(some 32), .call (.func i_laws_szInt64SSS) [(.tmp 30), (.tmp 31)], none⟩,
    ⟨(some 1), .op (.mv (.tmp 32)), none⟩]) (.kill [2, 29, 30, 31, 32]))
  (.seq (.seq (.post (.reg [⟨(some 33), .op (.mv (.tmp 1)), none⟩,
    ⟨(some 34), .op (.bin .lss (.tmp 33) (.const (Value.int .i64 0))), none⟩]) (.kill [33]))
  (.cond (.tmp 34) (.ghost (.kill [1, 34]) (.seq (.reg [⟨(some 4), .op (.mv (.const (Value.int .i64 (-1)))), none⟩])
  .ret))
  (.ghost (.kill [34]) .skip)))
  (.seq (.post (.reg [⟨(some 35), .op (.mv (.tmp 1)), none⟩,
    ⟨(some 4), .op (.mv (.tmp 35)), none⟩]) (.kill [1, 35]))
  .ret))))))))))))
theorem cf_laws_szChoices : chkFn Tryz.prog i_laws_szChoices ac_laws_szChoices [.tmp 4] 36 = true := by decide +kernel
def fa_laws_szChoices : FnA := ⟨ac_laws_szChoices, [.tmp 4], 36, false, true, [], .any, none⟩

/-- The checked code of spec l00In. -/
def ac_spec_l00In : AC := (.seq (.post (.reg [⟨(some 6), .op (.mv (.const (Value.bool false))), none⟩]) (.kill [6]))
  (.seq (.post (.reg [⟨(some 7), .op (.mv (.tmp 0)), none⟩,
    ⟨(some 8), .op (.mv (.tmp 1)), none⟩,
    ⟨(some 9), .op (.bin .geq (.tmp 7) (.tmp 8)), none⟩,
    ⟨(some 10), .op (.mv (.tmp 9)), none⟩,
    ⟨(some 11), .op (.mv (.tmp 0)), some (10, true)⟩,
    ⟨(some 12), .op (.mv (.tmp 2)), some (10, true)⟩,
    ⟨(some 13), .op (.bin .leq (.tmp 11) (.tmp 12)), some (10, true)⟩,
    ⟨(some 14), .op (.pick (.tmp 10) (.tmp 13) (.const (Value.bool false))), none⟩,
    ⟨(some 6), .op (.mv (.tmp 14)), none⟩]) (.kill [0, 1, 2, 7, 8, 9, 10, 11, 12, 13, 14]))
  .ret))
theorem cf_spec_l00In : chkFn Tryz.prog i_spec_l00In ac_spec_l00In [.tmp 6] 15 = true := by decide +kernel
def fa_spec_l00In : FnA := ⟨ac_spec_l00In, [.tmp 6], 15, false, true, [], .any, none⟩

/-- The checked code of spec l00Rises. -/
def lb_spec_l00Rises_0 : AC := (.seq (.seq (.post (.reg [⟨(some 8), .op (.mv (.tmp 7)), none⟩,
    ⟨(some 9), .op (.mv (.tmp 0)), none⟩,
    ⟨(some 10), .op (.len false (.tmp 9)), none⟩,
    ⟨(some 11), .op (.bin .lss (.tmp 8) (.tmp 10)), none⟩]) (.kill [8, 9, 10]))
  (.cond (.tmp 11) (.ghost (.kill [11]) .skip)
  (.ghost (.kill [0, 1, 2, 7, 11]) (.exit 0))))
  (.seq (.block 1 (.seq (.post (.draw [⟨0, ⟨(some 14), .op (.mv (.tmp 0)), none⟩, []⟩,
    ⟨1, ⟨(some 15), .op (.mv (.tmp 7)), none⟩, []⟩,
    ⟨2, ⟨(some 16), .op (.iaddrS (.tmp 14) (.tmp 15) 1), none⟩, []⟩,
    ⟨3, ⟨(some 17), .op (.load 1 false (.tmp 16)), none⟩, []⟩,
    ⟨4, ⟨(some 18), .op (.mv (.tmp 1)), none⟩, []⟩,
    ⟨5, ⟨(some 19), .op (.mv (.tmp 2)), none⟩, []⟩,
    ⟨6, ⟨(some 20), .call (.func i_spec_l00In) [(.tmp 17), (.tmp 18), (.tmp 19)], none⟩, []⟩,
    ⟨7, ⟨(some 21), .op (.un .not (.tmp 20)), none⟩, []⟩,
    ⟨8, ⟨(some 22), .op (.mv (.tmp 21)), none⟩, []⟩,
    ⟨9, ⟨(some 23), .op (.mv (.tmp 7)), some (22, false)⟩, []⟩,
    ⟨10, ⟨(some 24), .op (.bin .gtr (.tmp 23) (.const (Value.int .i64 0))), some (22, false)⟩, []⟩,
    ⟨11, ⟨(some 25), .op (.mv (.tmp 24)), some (22, false)⟩, []⟩,
    ⟨12, ⟨(some 26), .op (.mv (.tmp 0)), some (25, true)⟩, []⟩,
    ⟨13, ⟨(some 27), .op (.mv (.tmp 7)), some (25, true)⟩, []⟩,
    ⟨14, ⟨(some 28), .op (.bin .sub (.tmp 27) (.const (Value.int .i64 1))), some (25, true)⟩, []⟩,
    ⟨15, ⟨(some 29), .op (.iaddrS (.tmp 26) (.tmp 28) 1), some (25, true)⟩, []⟩,
    ⟨16, ⟨(some 30), .op (.load 1 false (.tmp 29)), some (25, true)⟩, []⟩,
    ⟨17, ⟨(some 31), .op (.mv (.tmp 0)), some (25, true)⟩, []⟩,
    ⟨18, ⟨(some 32), .op (.mv (.tmp 7)), some (25, true)⟩, []⟩,
    ⟨19, ⟨(some 33), .op (.iaddrS (.tmp 31) (.tmp 32) 1), some (25, true)⟩, []⟩,
    ⟨20, ⟨(some 34), .op (.load 1 false (.tmp 33)), some (25, true)⟩, []⟩,
    ⟨21, ⟨(some 35), .op (.bin .geq (.tmp 30) (.tmp 34)), some (25, true)⟩, []⟩,
    ⟨22, ⟨(some 36), .op (.pick (.tmp 25) (.tmp 35) (.const (Value.bool false))), some (22, false)⟩, []⟩,
    ⟨23, ⟨(some 37), .op (.pick (.tmp 22) (.const (Value.bool true)) (.tmp 36)), none⟩, []⟩]
    [0, 0, 3, 7, 0, 0, 63, 127, 255, 511, 1023, 2047, 4095, 4095, 12287, 32767, 65535, 4095, 4095, 397311, 921599, 2097151, 4194303, 8388607]) (.kill [14, 15, 16, 17, 18, 19, 20, 21, 22, 23, 24, 25, 26, 27, 28, 29, 30, 31, 32, 33, 34, 35, 36]))
  (.cond (.tmp 37) (.ghost (.kill [0, 1, 2, 7, 37]) (.seq (.reg [⟨(some 6), .op (.mv (.const (Value.bool false))), none⟩])
  .ret))
  (.ghost (.kill [37]) .skip))))
  (.post (.reg [⟨(some 12), .op (.mv (.tmp 7)), none⟩,
    ⟨(some 13), .op (.bin .add (.tmp 12) (.const (Value.int .i64 1))), none⟩,
    ⟨(some 7), .op (.mv (.tmp 13)), none⟩]) (.kill [12, 13]))))
def lo_spec_l00Rises_0 : AC := (.loop lb_spec_l00Rises_0)
def ac_spec_l00Rises : AC := (.seq (.post (.reg [⟨(some 6), .op (.mv (.const (Value.bool false))), none⟩]) (.kill [6]))
  (.seq (.seq (.reg [⟨(some 7), .op (.mv (.const (Value.int .i64 0))), none⟩])
  (.block 0 lo_spec_l00Rises_0))
  (.ghost (.kill [0, 1, 2, 7]) (.seq (.reg [⟨(some 6), .op (.mv (.const (Value.bool true))), none⟩])
  .ret))))
theorem cf_spec_l00Rises : chkFn Tryz.prog i_spec_l00Rises ac_spec_l00Rises [.tmp 6] 38 = true := by decide +kernel
def fa_spec_l00Rises : FnA := ⟨ac_spec_l00Rises, [.tmp 6], 38, false, true, [], .any, none⟩

/-- The checked code of spec l03Pushes. -/
def lb_spec_l03Pushes_0 : AC := (.post (.seq (.seq (.post (.reg [⟨(some 9), .op (.mv (.tmp 7)), none⟩,
    ⟨(some 10), .op (.mv (.tmp 0)), none⟩,
    ⟨(some 11), .op (.len false (.tmp 10)), none⟩,
    ⟨(some 12), .op (.bin .lss (.tmp 9) (.tmp 11)), none⟩]) (.kill [9, 10, 11]))
  (.cond (.tmp 12) (.ghost (.kill [12]) .skip)
  (.ghost (.kill [0, 1, 2, 7, 12]) (.exit 0))))
  (.seq (.block 1 (.seq (.post (.reg [⟨(some 15), .op (.mv (.tmp 0)), none⟩,
    ⟨(some 16), .op (.mv (.tmp 7)), none⟩,
    ⟨(some 17), .op (.iaddrS (.tmp 15) (.tmp 16) 2), none⟩,
    ⟨(some 18), .op (.load 2 true (.tmp 17)), none⟩,
    ⟨(some 8), .op (.alloc (Value.agg #[Value.int .i64 0, Value.int .i64 0])), none⟩,
    ⟨none, .op (.store 2 (.tmp 8) (.tmp 18)), none⟩]) (.kill [15, 16, 17, 18]))
  (.seq (.seq (.post (.reg [⟨(some 19), .op (.faddr (.tmp 8) 0), none⟩,
    ⟨(some 20), .op (.load 1 false (.tmp 19)), none⟩,
    ⟨(some 21), .op (.mv (.tmp 1)), none⟩,
    ⟨(some 22), .op (.bin .sub (.tmp 21) (.const (Value.int .i64 1))), none⟩,
    ⟨(some 23), .call (.func i_spec_l00In) [(.tmp 20), (.const (Value.int .i64 0)), (.tmp 22)], none⟩,
    ⟨(some 24), .op (.un .not (.tmp 23)), none⟩,
    ⟨(some 25), .op (.mv (.tmp 24)), none⟩,
    ⟨(some 26), .op (.faddr (.tmp 8) 1), some (25, false)⟩,
    ⟨(some 27), .op (.load 1 false (.tmp 26)), some (25, false)⟩,
    ⟨(some 28), .op (.mv (.tmp 2)), some (25, false)⟩,
    ⟨(some 29), .op (.bin .sub (.tmp 28) (.const (Value.int .i64 1))), some (25, false)⟩,
    ⟨(some 30), .call (.func i_spec_l00In) [(.tmp 27), (.const (Value.int .i64 0)), (.tmp 29)], some (25, false)⟩,
    ⟨(some 31), .op (.un .not (.tmp 30)), some (25, false)⟩,
    ⟨(some 32), .op (.pick (.tmp 25) (.const (Value.bool true)) (.tmp 31)), none⟩]) (.kill [19, 20, 21, 22, 23, 24, 25, 26, 27, 28, 29, 30, 31]))
  (.cond (.tmp 32) (.ghost (.kill [0, 1, 2, 7, 8, 32]) (.seq (.reg [⟨(some 6), .op (.mv (.const (Value.bool false))), none⟩])
  .ret))
  (.ghost (.kill [32]) .skip)))
  (.seq (.post (.draw [⟨0, ⟨(some 33), .op (.mv (.tmp 7)), none⟩, []⟩,
    ⟨1, ⟨(some 34), .op (.bin .gtr (.tmp 33) (.const (Value.int .i64 0))), none⟩, []⟩,
    ⟨2, ⟨(some 35), .op (.mv (.tmp 34)), none⟩, []⟩,
    ⟨3, ⟨(some 36), .op (.mv (.tmp 0)), some (35, true)⟩, []⟩,
    ⟨4, ⟨(some 37), .op (.mv (.tmp 7)), some (35, true)⟩, []⟩,
    ⟨5, ⟨(some 38), .op (.bin .sub (.tmp 37) (.const (Value.int .i64 1))), some (35, true)⟩, []⟩,
    ⟨6, ⟨(some 39), .op (.iaddrS (.tmp 36) (.tmp 38) 2), some (35, true)⟩, []⟩,
    ⟨7, ⟨(some 40), .op (.faddr (.tmp 39) 0), some (35, true)⟩, []⟩,
    ⟨8, ⟨(some 41), .op (.load 1 false (.tmp 40)), some (35, true)⟩, []⟩,
    ⟨9, ⟨(some 42), .op (.faddr (.tmp 8) 0), some (35, true)⟩, []⟩,
    ⟨10, ⟨(some 43), .op (.load 1 false (.tmp 42)), some (35, true)⟩, []⟩,
    ⟨11, ⟨(some 44), .op (.bin .gtr (.tmp 41) (.tmp 43)), some (35, true)⟩, []⟩,
    ⟨12, ⟨(some 45), .op (.mv (.tmp 44)), some (35, true)⟩, []⟩,
    ⟨13, ⟨(some 46), .op (.mv (.tmp 0)), some (45, false)⟩, []⟩,
    ⟨14, ⟨(some 47), .op (.mv (.tmp 7)), some (45, false)⟩, []⟩,
    ⟨15, ⟨(some 48), .op (.bin .sub (.tmp 47) (.const (Value.int .i64 1))), some (45, false)⟩, []⟩,
    ⟨16, ⟨(some 49), .op (.iaddrS (.tmp 46) (.tmp 48) 2), some (45, false)⟩, []⟩,
    ⟨17, ⟨(some 50), .op (.faddr (.tmp 49) 0), some (45, false)⟩, []⟩,
    ⟨18, ⟨(some 51), .op (.load 1 false (.tmp 50)), some (45, false)⟩, []⟩,
    ⟨19, ⟨(some 52), .op (.faddr (.tmp 8) 0), some (45, false)⟩, []⟩,
    ⟨20, ⟨(some 53), .op (.load 1 false (.tmp 52)), some (45, false)⟩, []⟩,
    ⟨21, ⟨(some 54), .op (.bin .eql (.tmp 51) (.tmp 53)), some (45, false)⟩, []⟩,
    ⟨22, ⟨(some 55), .op (.mv (.tmp 54)), some (45, false)⟩, []⟩,
    ⟨23, ⟨(some 56), .op (.mv (.tmp 0)), some (55, true)⟩, []⟩,
    ⟨24, ⟨(some 57), .op (.mv (.tmp 7)), some (55, true)⟩, []⟩,
    ⟨25, ⟨(some 58), .op (.bin .sub (.tmp 57) (.const (Value.int .i64 1))), some (55, true)⟩, []⟩,
    ⟨26, ⟨(some 59), .op (.iaddrS (.tmp 56) (.tmp 58) 2), some (55, true)⟩, []⟩,
    ⟨27, ⟨(some 60), .op (.faddr (.tmp 59) 1), some (55, true)⟩, []⟩,
    ⟨28, ⟨(some 61), .op (.load 1 false (.tmp 60)), some (55, true)⟩, []⟩,
    ⟨29, ⟨(some 62), .op (.faddr (.tmp 8) 1), some (55, true)⟩, []⟩,
    ⟨30, ⟨(some 63), .op (.load 1 false (.tmp 62)), some (55, true)⟩, []⟩,
    ⟨31, ⟨(some 64), .op (.bin .geq (.tmp 61) (.tmp 63)), some (55, true)⟩, []⟩,
    ⟨32, ⟨(some 65), .op (.pick (.tmp 55) (.tmp 64) (.const (Value.bool false))), some (45, false)⟩, []⟩,
    ⟨33, ⟨(some 66), .op (.pick (.tmp 45) (.const (Value.bool true)) (.tmp 65)), some (35, true)⟩, []⟩,
    ⟨34, ⟨(some 67), .op (.pick (.tmp 35) (.tmp 66) (.const (Value.bool false))), none⟩, []⟩]
    [0, 1, 3, 7, 7, 23, 63, 127, 255, 7, 519, 2047, 4095, 8191, 8191, 24575, 65535, 131071, 262143, 8191, 532479, 2097151, 4194303, 8388607, 8388607, 25165823, 67108863, 134217727, 268435455, 8388607, 545259519, 2147483647, 4294967295, 8589934591, 17179869183]) (.kill [8, 33, 34, 35, 36, 37, 38, 39, 40, 41, 42, 43, 44, 45, 46, 47, 48, 49, 50, 51, 52, 53, 54, 55, 56, 57, 58, 59, 60, 61, 62, 63, 64, 65, 66]))
  (.cond (.tmp 67) (.ghost (.kill [0, 1, 2, 7, 67]) (.seq (.reg [⟨(some 6), .op (.mv (.const (Value.bool false))), none⟩])
  .ret))
  (.ghost (.kill [67]) .skip))))))
  (.post (.reg [⟨(some 13), .op (.mv (.tmp 7)), none⟩,
    ⟨(some 14), .op (.bin .add (.tmp 13) (.const (Value.int .i64 1))), none⟩,
    ⟨(some 7), .op (.mv (.tmp 14)), none⟩]) (.kill [13, 14])))) .nv)
def lo_spec_l03Pushes_0 : AC := (.loop lb_spec_l03Pushes_0)
def ac_spec_l03Pushes : AC := (.seq (.post (.reg [⟨(some 6), .op (.mv (.const (Value.bool false))), none⟩]) (.kill [6]))
  (.seq (.seq (.reg [⟨(some 7), .op (.mv (.const (Value.int .i64 0))), none⟩])
  (.post (.block 0 (.ghost .nv lo_spec_l03Pushes_0)) .nv))
  (.ghost (.kill [0, 1, 2, 7]) (.seq (.reg [⟨(some 6), .op (.mv (.const (Value.bool true))), none⟩])
  .ret))))
theorem cf_spec_l03Pushes : chkFn Tryz.prog i_spec_l03Pushes ac_spec_l03Pushes [.tmp 6] 68 = true := by decide +kernel
def fa_spec_l03Pushes : FnA := ⟨ac_spec_l03Pushes, [.tmp 6], 68, false, true, [], .any, none⟩

/-- The checked code of spec l03Ok. -/
def lb_spec_l03Ok_0 : AC := (.seq (.seq (.post (.reg [⟨(some 152), .op (.mv (.tmp 6)), none⟩,
    ⟨(some 153), .op (.mv (.tmp 0)), none⟩,
    ⟨(some 154), .op (.nilc (.tmp 153)), none⟩,
    ⟨(some 155), .op (.faddr (.tmp 154) 4), none⟩,
    ⟨(some 156), .op (.load 1 false (.tmp 155)), none⟩,
    ⟨(some 157), .op (.mv (.tmp 4)), none⟩,
    ⟨(some 158), .op (.iaddrS (.tmp 156) (.tmp 157) 1), none⟩,
    ⟨(some 159), .op (.load 1 false (.tmp 158)), none⟩,
    ⟨(some 160), .op (.mv (.tmp 5)), none⟩,
    ⟨(some 161), .op (.iaddrS (.tmp 159) (.tmp 160) 1), none⟩,
    ⟨(some 162), .op (.load 1 false (.tmp 161)), none⟩,
    ⟨(some 163), .op (.len false (.tmp 162)), none⟩,
    ⟨(some 164), .op (.bin .lss (.tmp 152) (.tmp 163)), none⟩]) (.kill [152, 153, 154, 155, 156, 157, 158, 159, 160, 161, 162, 163]))
  (.cond (.tmp 164) (.ghost (.kill [164]) .skip)
  (.ghost (.kill [6, 164]) (.exit 4))))
  (.seq (.block 5 (.seq (.post (.reg [⟨(some 167), .op (.mv (.tmp 0)), none⟩,
    ⟨(some 168), .op (.nilc (.tmp 167)), none⟩,
    ⟨(some 169), .op (.faddr (.tmp 168) 4), none⟩,
    ⟨(some 170), .op (.load 1 false (.tmp 169)), none⟩,
    ⟨(some 171), .op (.mv (.tmp 4)), none⟩,
    ⟨(some 172), .op (.iaddrS (.tmp 170) (.tmp 171) 1), none⟩,
    ⟨(some 173), .op (.load 1 false (.tmp 172)), none⟩,
    ⟨(some 174), .op (.mv (.tmp 5)), none⟩,
    ⟨(some 175), .op (.iaddrS (.tmp 173) (.tmp 174) 1), none⟩,
    ⟨(some 176), .op (.load 1 false (.tmp 175)), none⟩,
    ⟨(some 177), .op (.mv (.tmp 6)), none⟩,
    ⟨(some 178), .op (.iaddrS (.tmp 176) (.tmp 177) 1), none⟩,
    ⟨(some 179), .op (.load 1 false (.tmp 178)), none⟩,
    ⟨(some 180), .op (.mv (.tmp 3)), none⟩,
    ⟨(some 181), .op (.bin .sub (.tmp 180) (.const (Value.int .i64 1))), none⟩,
    ⟨(some 182), .call (.func i_spec_l00Rises) [(.tmp 179), (.const (Value.int .i64 0)), (.tmp 181)], none⟩,
    ⟨(some 183), .op (.un .not (.tmp 182)), none⟩]) (.kill [167, 168, 169, 170, 171, 172, 173, 174, 175, 176, 177, 178, 179, 180, 181, 182]))
  (.cond (.tmp 183) (.ghost (.kill [0, 3, 4, 5, 6, 183]) (.seq (.reg [⟨(some 2), .op (.mv (.const (Value.bool false))), none⟩])
  .ret))
  (.ghost (.kill [183]) .skip))))
  (.post (.reg [⟨(some 165), .op (.mv (.tmp 6)), none⟩,
    ⟨(some 166), .op (.bin .add (.tmp 165) (.const (Value.int .i64 1))), none⟩,
    ⟨(some 6), .op (.mv (.tmp 166)), none⟩]) (.kill [165, 166]))))
def lo_spec_l03Ok_0 : AC := (.loop lb_spec_l03Ok_0)
def lb_spec_l03Ok_1 : AC := (.seq (.seq (.post (.reg [⟨(some 96), .op (.mv (.tmp 5)), none⟩,
    ⟨(some 97), .op (.bin .lss (.tmp 96) (.const (Value.int .i64 2))), none⟩]) (.kill [96]))
  (.cond (.tmp 97) (.ghost (.kill [97]) .skip)
  (.ghost (.kill [5, 97]) (.exit 2))))
  (.seq (.block 3 (.seq (.seq (.post (.draw [⟨0, ⟨(some 100), .op (.mv (.tmp 0)), none⟩, []⟩,
    ⟨1, ⟨(some 101), .op (.nilc (.tmp 100)), none⟩, []⟩,
    ⟨2, ⟨(some 102), .op (.faddr (.tmp 101) 3), none⟩, []⟩,
    ⟨3, ⟨(some 103), .op (.load 1 false (.tmp 102)), none⟩, []⟩,
    ⟨4, ⟨(some 104), .op (.mv (.tmp 4)), none⟩, []⟩,
    ⟨5, ⟨(some 105), .op (.iaddrS (.tmp 103) (.tmp 104) 1), none⟩, []⟩,
    ⟨6, ⟨(some 106), .op (.load 1 false (.tmp 105)), none⟩, []⟩,
    ⟨7, ⟨(some 107), .op (.mv (.tmp 5)), none⟩, []⟩,
    ⟨8, ⟨(some 108), .op (.iaddrS (.tmp 106) (.tmp 107) 1), none⟩, []⟩,
    ⟨9, ⟨(some 109), .op (.load 1 false (.tmp 108)), none⟩, []⟩,
    ⟨10, ⟨(some 110), .op (.mv (.tmp 3)), none⟩, []⟩,
    ⟨11, ⟨(some 111), .op (.mv (.tmp 0)), none⟩, []⟩,
    ⟨12, ⟨(some 112), .op (.nilc (.tmp 111)), none⟩, []⟩,
    ⟨13, ⟨(some 113), .op (.faddr (.tmp 112) 0), none⟩, []⟩,
    ⟨14, ⟨(some 114), .op (.load 1 false (.tmp 113)), none⟩, []⟩,
    ⟨15, ⟨(some 115), .call (.func i_spec_l03Pushes) [(.tmp 109), (.tmp 110), (.tmp 114)], none⟩, []⟩,
    ⟨16, ⟨(some 116), .op (.un .not (.tmp 115)), none⟩, []⟩,
    ⟨17, ⟨(some 117), .op (.mv (.tmp 116)), none⟩, []⟩,
    ⟨18, ⟨(some 118), .op (.mv (.tmp 0)), some (117, false)⟩, []⟩,
    ⟨19, ⟨(some 119), .op (.nilc (.tmp 118)), some (117, false)⟩, []⟩,
    ⟨20, ⟨(some 120), .op (.faddr (.tmp 119) 5), some (117, false)⟩, []⟩,
    ⟨21, ⟨(some 121), .op (.load 1 false (.tmp 120)), some (117, false)⟩, []⟩,
    ⟨22, ⟨(some 122), .op (.mv (.tmp 4)), some (117, false)⟩, []⟩,
    ⟨23, ⟨(some 123), .op (.iaddrS (.tmp 121) (.tmp 122) 1), some (117, false)⟩, []⟩,
    ⟨24, ⟨(some 124), .op (.load 1 false (.tmp 123)), some (117, false)⟩, []⟩,
    ⟨25, ⟨(some 125), .op (.mv (.tmp 5)), some (117, false)⟩, []⟩,
    ⟨26, ⟨(some 126), .op (.iaddrS (.tmp 124) (.tmp 125) 1), some (117, false)⟩, []⟩,
    ⟨27, ⟨(some 127), .op (.load 1 false (.tmp 126)), some (117, false)⟩, []⟩,
    ⟨28, ⟨(some 128), .op (.mv (.tmp 3)), some (117, false)⟩, []⟩,
    ⟨29, ⟨(some 129), .op (.bin .sub (.tmp 128) (.const (Value.int .i64 1))), some (117, false)⟩, []⟩,
    ⟨30, ⟨(some 130), .call (.func i_spec_l00Rises) [(.tmp 127), (.const (Value.int .i64 0)), (.tmp 129)], some (117, false)⟩, []⟩,
    ⟨31, ⟨(some 131), .op (.un .not (.tmp 130)), some (117, false)⟩, []⟩,
    ⟨32, ⟨(some 132), .op (.pick (.tmp 117) (.const (Value.bool true)) (.tmp 131)), none⟩, []⟩,
    ⟨33, ⟨(some 133), .op (.mv (.tmp 132)), none⟩, []⟩,
    ⟨34, ⟨(some 134), .op (.mv (.tmp 0)), some (133, false)⟩, []⟩,
    ⟨35, ⟨(some 135), .op (.nilc (.tmp 134)), some (133, false)⟩, []⟩,
    ⟨36, ⟨(some 136), .op (.faddr (.tmp 135) 4), some (133, false)⟩, []⟩,
    ⟨37, ⟨(some 137), .op (.load 1 false (.tmp 136)), some (133, false)⟩, []⟩,
    ⟨38, ⟨(some 138), .op (.mv (.tmp 4)), some (133, false)⟩, []⟩,
    ⟨39, ⟨(some 139), .op (.iaddrS (.tmp 137) (.tmp 138) 1), some (133, false)⟩, []⟩,
    ⟨40, ⟨(some 140), .op (.load 1 false (.tmp 139)), some (133, false)⟩, []⟩,
    ⟨41, ⟨(some 141), .op (.mv (.tmp 5)), some (133, false)⟩, []⟩,
    ⟨42, ⟨(some 142), .op (.iaddrS (.tmp 140) (.tmp 141) 1), some (133, false)⟩, []⟩,
    ⟨43, ⟨(some 143), .op (.load 1 false (.tmp 142)), some (133, false)⟩, []⟩,
    ⟨44, ⟨(some 144), .op (.len false (.tmp 143)), some (133, false)⟩, []⟩,
    ⟨45, ⟨(some 145), .op (.mv (.tmp 0)), some (133, false)⟩, []⟩,
    ⟨46, ⟨(some 146), .op (.nilc (.tmp 145)), some (133, false)⟩, []⟩,
    ⟨47, ⟨(some 147), .op (.faddr (.tmp 146) 0), some (133, false)⟩, []⟩,
    ⟨48, ⟨(some 148), .op (.load 1 false (.tmp 147)), some (133, false)⟩, []⟩,
    ⟨49, ⟨(some 149), .op (.bin .add (.tmp 148) (.const (Value.int .i64 1))), some (133, false)⟩, []⟩,
    ⟨50, ⟨(some 150), .op (.bin .neq (.tmp 144) (.tmp 149)), some (133, false)⟩, []⟩,
    ⟨51, ⟨(some 151), .op (.pick (.tmp 133) (.const (Value.bool true)) (.tmp 150)), none⟩, []⟩]
    [0, 1, 3, 7, 0, 31, 63, 0, 255, 511, 0, 0, 2048, 6144, 14336, 32767, 65535, 131071, 262143, 524287, 1048575, 2097151, 262143, 8388607, 16777215, 262143, 67108863, 134217727, 262143, 268697599, 1073741823, 2147483647, 4294967295, 8589934591, 17179869183, 34359738367, 68719476735, 137438953471, 17179869183, 549755813887, 1099511627775, 17179869183, 4398046511103, 8796093022207, 17592186044415, 17179869183, 35201551958015, 105570296135679, 246307784491007, 527782761201663, 1125899906842623, 2251799813685247]) (.kill [100, 101, 102, 103, 104, 105, 106, 107, 108, 109, 110, 111, 112, 113, 114, 115, 116, 117, 118, 119, 120, 121, 122, 123, 124, 125, 126, 127, 128, 129, 130, 131, 132, 133, 134, 135, 136, 137, 138, 139, 140, 141, 142, 143, 144, 145, 146, 147, 148, 149, 150]))
  (.cond (.tmp 151) (.ghost (.kill [0, 3, 4, 5, 151]) (.seq (.reg [⟨(some 2), .op (.mv (.const (Value.bool false))), none⟩])
  .ret))
  (.ghost (.kill [151]) .skip)))
  (.seq (.reg [⟨(some 6), .op (.mv (.const (Value.int .i64 0))), none⟩])
  (.block 4 lo_spec_l03Ok_0))))
  (.ghost (.kill [6]) (.post (.reg [⟨(some 98), .op (.mv (.tmp 5)), none⟩,
    ⟨(some 99), .op (.bin .add (.tmp 98) (.const (Value.int .i64 1))), none⟩,
    ⟨(some 5), .op (.mv (.tmp 99)), none⟩]) (.kill [98, 99])))))
def lo_spec_l03Ok_1 : AC := (.loop lb_spec_l03Ok_1)
def lb_spec_l03Ok_2 : AC := (.seq (.seq (.post (.reg [⟨(some 60), .op (.mv (.tmp 4)), none⟩,
    ⟨(some 61), .op (.mv (.tmp 3)), none⟩,
    ⟨(some 62), .op (.bin .lss (.tmp 60) (.tmp 61)), none⟩]) (.kill [60, 61]))
  (.cond (.tmp 62) (.ghost (.kill [62]) .skip)
  (.ghost (.kill [0, 3, 4, 62]) (.exit 0))))
  (.seq (.block 1 (.seq (.seq (.post (.reg [⟨(some 65), .op (.mv (.tmp 0)), none⟩,
    ⟨(some 66), .op (.nilc (.tmp 65)), none⟩,
    ⟨(some 67), .op (.faddr (.tmp 66) 3), none⟩,
    ⟨(some 68), .op (.load 1 false (.tmp 67)), none⟩,
    ⟨(some 69), .op (.mv (.tmp 4)), none⟩,
    ⟨(some 70), .op (.iaddrS (.tmp 68) (.tmp 69) 1), none⟩,
    ⟨(some 71), .op (.load 1 false (.tmp 70)), none⟩,
    ⟨(some 72), .op (.len false (.tmp 71)), none⟩,
    ⟨(some 73), .op (.bin .neq (.tmp 72) (.const (Value.int .i64 2))), none⟩,
    ⟨(some 74), .op (.mv (.tmp 73)), none⟩,
    ⟨(some 75), .op (.mv (.tmp 0)), some (74, false)⟩,
    ⟨(some 76), .op (.nilc (.tmp 75)), some (74, false)⟩,
    ⟨(some 77), .op (.faddr (.tmp 76) 4), some (74, false)⟩,
    ⟨(some 78), .op (.load 1 false (.tmp 77)), some (74, false)⟩,
    ⟨(some 79), .op (.mv (.tmp 4)), some (74, false)⟩,
    ⟨(some 80), .op (.iaddrS (.tmp 78) (.tmp 79) 1), some (74, false)⟩,
    ⟨(some 81), .op (.load 1 false (.tmp 80)), some (74, false)⟩,
    ⟨(some 82), .op (.len false (.tmp 81)), some (74, false)⟩,
    ⟨(some 83), .op (.bin .neq (.tmp 82) (.const (Value.int .i64 2))), some (74, false)⟩,
    ⟨(some 84), .op (.pick (.tmp 74) (.const (Value.bool true)) (.tmp 83)), none⟩,
    ⟨(some 85), .op (.mv (.tmp 84)), none⟩,
    ⟨(some 86), .op (.mv (.tmp 0)), some (85, false)⟩,
    ⟨(some 87), .op (.nilc (.tmp 86)), some (85, false)⟩,
    ⟨(some 88), .op (.faddr (.tmp 87) 5), some (85, false)⟩,
    ⟨(some 89), .op (.load 1 false (.tmp 88)), some (85, false)⟩,
    ⟨(some 90), .op (.mv (.tmp 4)), some (85, false)⟩,
    ⟨(some 91), .op (.iaddrS (.tmp 89) (.tmp 90) 1), some (85, false)⟩,
    ⟨(some 92), .op (.load 1 false (.tmp 91)), some (85, false)⟩,
    ⟨(some 93), .op (.len false (.tmp 92)), some (85, false)⟩,
    ⟨(some 94), .op (.bin .neq (.tmp 93) (.const (Value.int .i64 2))), some (85, false)⟩,
    ⟨(some 95), .op (.pick (.tmp 85) (.const (Value.bool true)) (.tmp 94)), none⟩]) (.kill [65, 66, 67, 68, 69, 70, 71, 72, 73, 74, 75, 76, 77, 78, 79, 80, 81, 82, 83, 84, 85, 86, 87, 88, 89, 90, 91, 92, 93, 94]))
  (.cond (.tmp 95) (.ghost (.kill [0, 3, 4, 95]) (.seq (.reg [⟨(some 2), .op (.mv (.const (Value.bool false))), none⟩])
  .ret))
  (.ghost (.kill [95]) .skip)))
  (.seq (.reg [⟨(some 5), .op (.mv (.const (Value.int .i64 0))), none⟩])
  (.block 2 lo_spec_l03Ok_1))))
  (.ghost (.kill [5]) (.post (.reg [⟨(some 63), .op (.mv (.tmp 4)), none⟩,
    ⟨(some 64), .op (.bin .add (.tmp 63) (.const (Value.int .i64 1))), none⟩,
    ⟨(some 4), .op (.mv (.tmp 64)), none⟩]) (.kill [63, 64])))))
def lo_spec_l03Ok_2 : AC := (.loop lb_spec_l03Ok_2)
def ac_spec_l03Ok : AC := (.seq (.post (.reg [⟨(some 2), .op (.mv (.const (Value.bool false))), none⟩]) (.kill [2]))
  (.seq (.post (.reg [⟨(some 7), .op (.mv (.tmp 0)), none⟩,
    ⟨(some 8), .op (.nilc (.tmp 7)), none⟩,
    ⟨(some 9), .op (.faddr (.tmp 8) 2), none⟩,
    ⟨(some 10), .op (.load 1 false (.tmp 9)), none⟩,
    ⟨(some 11), .op (.len false (.tmp 10)), none⟩,
    ⟨(some 3), .op (.mv (.tmp 11)), none⟩]) (.kill [7, 8, 9, 10, 11]))
  (.seq (.seq (.post (.reg [⟨(some 12), .op (.mv (.tmp 3)), none⟩,
    ⟨(some 13), .call (.func i_spec_l00In) [(.tmp 12), (.const (Value.int .i64 1)), (.const (Value.int .i64 5))], none⟩,
    ⟨(some 14), .op (.un .not (.tmp 13)), none⟩,
    ⟨(some 15), .op (.mv (.tmp 14)), none⟩,
    ⟨(some 16), .op (.mv (.tmp 0)), some (15, false)⟩,
    ⟨(some 17), .op (.nilc (.tmp 16)), some (15, false)⟩,
    ⟨(some 18), .op (.faddr (.tmp 17) 0), some (15, false)⟩,
    ⟨(some 19), .op (.load 1 false (.tmp 18)), some (15, false)⟩,
    ⟨(some 20), .call (.func i_spec_l00In) [(.tmp 19), (.const (Value.int .i64 1)), (.const (Value.int .i64 4))], some (15, false)⟩,
    ⟨(some 21), .op (.un .not (.tmp 20)), some (15, false)⟩,
    ⟨(some 22), .op (.pick (.tmp 15) (.const (Value.bool true)) (.tmp 21)), none⟩,
    ⟨(some 23), .op (.mv (.tmp 22)), none⟩,
    ⟨(some 24), .op (.mv (.tmp 0)), some (23, false)⟩,
    ⟨(some 25), .op (.nilc (.tmp 24)), some (23, false)⟩,
    ⟨(some 26), .op (.faddr (.tmp 25) 1), some (23, false)⟩,
    ⟨(some 27), .op (.load 1 false (.tmp 26)), some (23, false)⟩,
    ⟨(some 28), .op (.mv (.tmp 3)), some (23, false)⟩,
    ⟨(some 29), .op (.bin .sub (.tmp 28) (.const (Value.int .i64 1))), some (23, false)⟩,
    ⟨(some 30), .call (.func i_spec_l00Rises) [(.tmp 27), (.const (Value.int .i64 0)), (.tmp 29)], some (23, false)⟩,
    ⟨(some 31), .op (.un .not (.tmp 30)), some (23, false)⟩,
    ⟨(some 32), .op (.pick (.tmp 23) (.const (Value.bool true)) (.tmp 31)), none⟩,
    ⟨(some 33), .op (.mv (.tmp 32)), none⟩,
    ⟨(some 34), .op (.mv (.tmp 0)), some (33, false)⟩,
    ⟨(some 35), .op (.nilc (.tmp 34)), some (33, false)⟩,
    ⟨(some 36), .op (.faddr (.tmp 35) 3), some (33, false)⟩,
    ⟨(some 37), .op (.load 1 false (.tmp 36)), some (33, false)⟩,
    ⟨(some 38), .op (.len false (.tmp 37)), some (33, false)⟩,
    ⟨(some 39), .op (.mv (.tmp 3)), some (33, false)⟩,
    ⟨(some 40), .op (.bin .neq (.tmp 38) (.tmp 39)), some (33, false)⟩,
    ⟨(some 41), .op (.pick (.tmp 33) (.const (Value.bool true)) (.tmp 40)), none⟩,
    ⟨(some 42), .op (.mv (.tmp 41)), none⟩,
    ⟨(some 43), .op (.mv (.tmp 0)), some (42, false)⟩,
    ⟨(some 44), .op (.nilc (.tmp 43)), some (42, false)⟩,
    ⟨(some 45), .op (.faddr (.tmp 44) 4), some (42, false)⟩,
    ⟨(some 46), .op (.load 1 false (.tmp 45)), some (42, false)⟩,
    ⟨(some 47), .op (.len false (.tmp 46)), some (42, false)⟩,
    ⟨(some 48), .op (.mv (.tmp 3)), some (42, false)⟩,
    ⟨(some 49), .op (.bin .neq (.tmp 47) (.tmp 48)), some (42, false)⟩,
    ⟨(some 50), .op (.pick (.tmp 42) (.const (Value.bool true)) (.tmp 49)), none⟩,
    ⟨(some 51), .op (.mv (.tmp 50)), none⟩,
    ⟨(some 52), .op (.mv (.tmp 0)), some (51, false)⟩,
    ⟨(some 53), .op (.nilc (.tmp 52)), some (51, false)⟩,
    ⟨(some 54), .op (.faddr (.tmp 53) 5), some (51, false)⟩,
    ⟨(some 55), .op (.load 1 false (.tmp 54)), some (51, false)⟩,
    ⟨(some 56), .op (.len false (.tmp 55)), some (51, false)⟩,
    ⟨(some 57), .op (.mv (.tmp 3)), some (51, false)⟩,
    ⟨(some 58), .op (.bin .neq (.tmp 56) (.tmp 57)), some (51, false)⟩,
    ⟨(some 59), .op (.pick (.tmp 51) (.const (Value.bool true)) (.tmp 58)), none⟩]) (.kill [12, 13, 14, 15, 16, 17, 18, 19, 20, 21, 22, 23, 24, 25, 26, 27, 28, 29, 30, 31, 32, 33, 34, 35, 36, 37, 38, 39, 40, 41, 42, 43, 44, 45, 46, 47, 48, 49, 50, 51, 52, 53, 54, 55, 56, 57, 58]))
  (.cond (.tmp 59) (.ghost (.kill [0, 3, 59]) (.seq (.reg [⟨(some 2), .op (.mv (.const (Value.bool false))), none⟩])
  .ret))
  (.ghost (.kill [59]) .skip)))
  (.seq (.seq (.reg [⟨(some 4), .op (.mv (.const (Value.int .i64 0))), none⟩])
  (.block 0 lo_spec_l03Ok_2))
  (.ghost (.kill [0, 3, 4]) (.seq (.reg [⟨(some 2), .op (.mv (.const (Value.bool true))), none⟩])
  .ret))))))
theorem cf_spec_l03Ok : chkFn Tryz.prog i_spec_l03Ok ac_spec_l03Ok [.tmp 2] 184 = true := by decide +kernel
def fa_spec_l03Ok : FnA := ⟨ac_spec_l03Ok, [.tmp 2], 184, false, true, [], .any, none⟩

/-- The checked code of spec l01Symbol. -/
def lb_spec_l01Symbol_0 : AC := (.seq (.seq (.post (.reg [⟨(some 4), .op (.mv (.tmp 3)), none⟩,
    ⟨(some 5), .op (.bin .lss (.tmp 4) (.const (Value.int .i64 6))), none⟩]) (.kill [4]))
  (.cond (.tmp 5) (.ghost (.kill [5]) .skip)
  (.ghost (.kill [0, 3, 5]) (.exit 0))))
  (.seq (.block 1 (.seq (.post (.reg [⟨(some 8), .op (.mv (.tmp 3)), none⟩,
    ⟨(some 9), .op (.idxStr (.const (Value.string ⟨#[40, 91, 41, 93, 97, 98]⟩)) (.tmp 8)), none⟩,
    ⟨(some 10), .op (.mv (.tmp 0)), none⟩,
    ⟨(some 11), .op (.bin .eql (.tmp 9) (.tmp 10)), none⟩]) (.kill [8, 9, 10]))
  (.cond (.tmp 11) (.ghost (.kill [0, 11]) (.seq (.post (.reg [⟨(some 12), .op (.mv (.tmp 3)), none⟩,
    ⟨(some 2), .op (.mv (.tmp 12)), none⟩]) (.kill [3, 12]))
  .ret))
  (.ghost (.kill [11]) .skip))))
  (.post (.reg [⟨(some 6), .op (.mv (.tmp 3)), none⟩,
    ⟨(some 7), .op (.bin .add (.tmp 6) (.const (Value.int .i64 1))), none⟩,
    ⟨(some 3), .op (.mv (.tmp 7)), none⟩]) (.kill [6, 7]))))
def lo_spec_l01Symbol_0 : AC := (.loop lb_spec_l01Symbol_0)
def ac_spec_l01Symbol : AC := (.seq (.post (.reg [⟨(some 2), .op (.mv (.const (Value.int .i64 0))), none⟩]) (.kill [2]))
  (.seq (.seq (.reg [⟨(some 3), .op (.mv (.const (Value.int .i64 0))), none⟩])
  (.block 0 lo_spec_l01Symbol_0))
  (.ghost (.kill [0, 3]) (.seq (.reg [⟨(some 2), .op (.mv (.const (Value.int .i64 (-1)))), none⟩])
  .ret))))
theorem cf_spec_l01Symbol : chkFn Tryz.prog i_spec_l01Symbol ac_spec_l01Symbol [.tmp 2] 13 = true := by decide +kernel
def fa_spec_l01Symbol : FnA := ⟨ac_spec_l01Symbol, [.tmp 2], 13, false, true, [], .any, none⟩

/-- The checked code of spec l01Ok. -/
def lb_spec_l01Ok_0 : AC := (.seq (.seq (.post (.reg [⟨(some 4), .op (.mv (.tmp 3)), none⟩,
    ⟨(some 5), .op (.mv (.tmp 0)), none⟩,
    ⟨(some 6), .op (.len true (.tmp 5)), none⟩,
    ⟨(some 7), .op (.bin .lss (.tmp 4) (.tmp 6)), none⟩]) (.kill [4, 5, 6]))
  (.cond (.tmp 7) (.ghost (.kill [7]) .skip)
  (.ghost (.kill [3, 7]) (.exit 0))))
  (.seq (.block 1 (.seq (.post (.reg [⟨(some 10), .op (.mv (.tmp 0)), none⟩,
    ⟨(some 11), .op (.mv (.tmp 3)), none⟩,
    ⟨(some 12), .op (.idxStr (.tmp 10) (.tmp 11)), none⟩,
    ⟨(some 13), .call (.func i_spec_l01Symbol) [(.tmp 12)], none⟩,
    ⟨(some 14), .op (.bin .lss (.tmp 13) (.const (Value.int .i64 0))), none⟩]) (.kill [10, 11, 12, 13]))
  (.cond (.tmp 14) (.ghost (.kill [0, 3, 14]) (.seq (.reg [⟨(some 2), .op (.mv (.const (Value.bool false))), none⟩])
  .ret))
  (.ghost (.kill [14]) .skip))))
  (.post (.reg [⟨(some 8), .op (.mv (.tmp 3)), none⟩,
    ⟨(some 9), .op (.bin .add (.tmp 8) (.const (Value.int .i64 1))), none⟩,
    ⟨(some 3), .op (.mv (.tmp 9)), none⟩]) (.kill [8, 9]))))
def lo_spec_l01Ok_0 : AC := (.loop lb_spec_l01Ok_0)
def ac_spec_l01Ok : AC := (.seq (.post (.reg [⟨(some 2), .op (.mv (.const (Value.bool false))), none⟩]) (.kill [2]))
  (.seq (.seq (.reg [⟨(some 3), .op (.mv (.const (Value.int .i64 0))), none⟩])
  (.block 0 lo_spec_l01Ok_0))
  (.ghost (.kill [3]) (.seq (.post (.reg [⟨(some 15), .op (.mv (.tmp 0)), none⟩,
    ⟨(some 16), .op (.len true (.tmp 15)), none⟩,
    ⟨(some 17), .op (.bin .leq (.tmp 16) (.const (Value.int .i64 60))), none⟩,
    ⟨(some 2), .op (.mv (.tmp 17)), none⟩]) (.kill [0, 15, 16, 17]))
  .ret))))
theorem cf_spec_l01Ok : chkFn Tryz.prog i_spec_l01Ok ac_spec_l01Ok [.tmp 2] 18 = true := by decide +kernel
def fa_spec_l01Ok : FnA := ⟨ac_spec_l01Ok, [.tmp 2], 18, false, true, [], .any, none⟩

/-- The checked code of spec l03Given. -/
def ac_spec_l03Given : AC := (.seq (.post (.reg [⟨(some 4), .op (.mv (.const (Value.int .i64 0))), none⟩]) (.kill [4]))
  (.seq (.seq (.post (.reg [⟨(some 5), .op (.mv (.tmp 0)), none⟩,
    ⟨(some 6), .call (.func i_spec_l03Ok) [(.tmp 5)], none⟩,
    ⟨(some 7), .op (.un .not (.tmp 6)), none⟩,
    ⟨(some 8), .op (.mv (.tmp 7)), none⟩,
    ⟨(some 9), .op (.mv (.tmp 1)), some (8, false)⟩,
    ⟨(some 10), .call (.func i_spec_l01Ok) [(.tmp 9)], some (8, false)⟩,
    ⟨(some 11), .op (.un .not (.tmp 10)), some (8, false)⟩,
    ⟨(some 12), .op (.pick (.tmp 8) (.const (Value.bool true)) (.tmp 11)), none⟩]) (.kill [0, 1, 5, 6, 7, 8, 9, 10, 11]))
  (.cond (.tmp 12) (.ghost (.kill [12]) (.seq (.reg [⟨(some 4), .op (.mv (.const (Value.int .i64 1))), none⟩])
  .ret))
  (.ghost (.kill [12]) .skip)))
  (.seq (.reg [⟨(some 4), .op (.mv (.const (Value.int .i64 0))), none⟩])
  .ret)))
theorem cf_spec_l03Given : chkFn Tryz.prog i_spec_l03Given ac_spec_l03Given [.tmp 4] 13 = true := by decide +kernel
def fa_spec_l03Given : FnA := ⟨ac_spec_l03Given, [.tmp 4], 13, false, true, [], .any, none⟩

/-- The checked code of spec l01Return. -/
def ac_spec_l01Return : AC := (.seq (.post (.reg [⟨(some 2), .op (.mv (.const (Value.bool false))), none⟩]) (.kill [2]))
  (.seq (.post (.reg [⟨(some 3), .op (.mv (.tmp 0)), none⟩,
    ⟨(some 4), .op (.bin .eql (.tmp 3) (.const (Value.int .u8 41))), none⟩,
    ⟨(some 5), .op (.mv (.tmp 4)), none⟩,
    ⟨(some 6), .op (.mv (.tmp 0)), some (5, false)⟩,
    ⟨(some 7), .op (.bin .eql (.tmp 6) (.const (Value.int .u8 93))), some (5, false)⟩,
    ⟨(some 8), .op (.pick (.tmp 5) (.const (Value.bool true)) (.tmp 7)), none⟩,
    ⟨(some 2), .op (.mv (.tmp 8)), none⟩]) (.kill [0, 3, 4, 5, 6, 7, 8]))
  .ret))
theorem cf_spec_l01Return : chkFn Tryz.prog i_spec_l01Return ac_spec_l01Return [.tmp 2] 9 = true := by decide +kernel
def fa_spec_l01Return : FnA := ⟨ac_spec_l01Return, [.tmp 2], 9, false, true, [], .any, none⟩

/-- The checked code of spec l01Call. -/
def ac_spec_l01Call : AC := (.seq (.post (.reg [⟨(some 2), .op (.mv (.const (Value.bool false))), none⟩]) (.kill [2]))
  (.seq (.post (.reg [⟨(some 3), .op (.mv (.tmp 0)), none⟩,
    ⟨(some 4), .op (.bin .eql (.tmp 3) (.const (Value.int .u8 40))), none⟩,
    ⟨(some 5), .op (.mv (.tmp 4)), none⟩,
    ⟨(some 6), .op (.mv (.tmp 0)), some (5, false)⟩,
    ⟨(some 7), .op (.bin .eql (.tmp 6) (.const (Value.int .u8 91))), some (5, false)⟩,
    ⟨(some 8), .op (.pick (.tmp 5) (.const (Value.bool true)) (.tmp 7)), none⟩,
    ⟨(some 2), .op (.mv (.tmp 8)), none⟩]) (.kill [0, 3, 4, 5, 6, 7, 8]))
  .ret))
theorem cf_spec_l01Call : chkFn Tryz.prog i_spec_l01Call ac_spec_l01Call [.tmp 2] 9 = true := by decide +kernel
def fa_spec_l01Call : FnA := ⟨ac_spec_l01Call, [.tmp 2], 9, false, true, [], .any, none⟩

/-- The checked code of spec l01Partners. -/
def lb_spec_l01Partners_0 : AC := (.post (.seq (.seq (.post (.reg [⟨(some 9), .op (.mv (.tmp 5)), none⟩,
    ⟨(some 10), .op (.mv (.tmp 0)), none⟩,
    ⟨(some 11), .op (.len true (.tmp 10)), none⟩,
    ⟨(some 12), .op (.bin .lss (.tmp 9) (.tmp 11)), none⟩]) (.kill [9, 10, 11]))
  (.cond (.tmp 12) (.ghost (.kill [12]) .skip)
  (.ghost (.kill [0, 4, 5, 12]) (.exit 0))))
  (.seq (.block 1 (.block 2 (.seq (.post (.reg [⟨(some 19), .op (.mv (.tmp 0)), none⟩,
    ⟨(some 20), .op (.mv (.tmp 5)), none⟩,
    ⟨(some 21), .op (.idxStr (.tmp 19) (.tmp 20)), none⟩,
    ⟨(some 22), .call (.func i_spec_l01Call) [(.tmp 21)], none⟩,
    ⟨(some 18), .op (.mv (.tmp 22)), none⟩]) (.kill [19, 20, 21, 22]))
  (.cond (.tmp 18) (.ghost (.kill [18]) (.seq (.post (.post (.reg [⟨(some 23), .op (.mv (.tmp 3)), none⟩,
    ⟨(some 24), .op (.lits true 1 1 (Value.int .i64 0) [(0, (.const (Value.int .i64 (-2))))]), none⟩,
    ⟨(some 25), .op (.append (.tmp 23) (.tmp 24) 1 8), none⟩,
    ⟨(some 3), .op (.mv (.tmp 25)), none⟩]) (.kill [23, 24, 25])) .nv)
  (.post (.post (.reg [⟨(some 26), .op (.mv (.tmp 4)), none⟩,
    ⟨(some 27), .op (.mv (.tmp 5)), none⟩,
    ⟨(some 28), .op (.lits true 1 1 (Value.int .i64 0) [(0, (.tmp 27))]), none⟩,
    ⟨(some 29), .op (.append (.tmp 26) (.tmp 28) 1 8), none⟩,
    ⟨(some 4), .op (.mv (.tmp 29)), none⟩]) (.kill [26, 27, 28, 29])) .nv)))
  (.ghost (.kill [18]) (.seq (.post (.reg [⟨(some 31), .op (.mv (.tmp 0)), none⟩,
    ⟨(some 32), .op (.mv (.tmp 5)), none⟩,
    ⟨(some 33), .op (.idxStr (.tmp 31) (.tmp 32)), none⟩,
    ⟨(some 34), .call (.func i_spec_l01Return) [(.tmp 33)], none⟩,
    ⟨(some 35), .op (.mv (.tmp 34)), none⟩,
    ⟨(some 36), .op (.mv (.tmp 4)), some (35, true)⟩,
    ⟨(some 37), .op (.len false (.tmp 36)), some (35, true)⟩,
    ⟨(some 38), .op (.bin .gtr (.tmp 37) (.const (Value.int .i64 0))), some (35, true)⟩,
    ⟨(some 39), .op (.pick (.tmp 35) (.tmp 38) (.const (Value.bool false))), none⟩,
    ⟨(some 30), .op (.mv (.tmp 39)), none⟩]) (.kill [31, 32, 33, 34, 35, 36, 37, 38, 39]))
  (.cond (.tmp 30) (.ghost (.kill [30]) (.seq (.post (.reg [⟨(some 40), .op (.mv (.tmp 4)), none⟩,
    ⟨(some 41), .op (.mv (.tmp 4)), none⟩,
    ⟨(some 42), .op (.len false (.tmp 41)), none⟩,
    ⟨(some 43), .op (.bin .sub (.tmp 42) (.const (Value.int .i64 1))), none⟩,
    ⟨(some 44), .op (.iaddrS (.tmp 40) (.tmp 43) 1), none⟩,
    ⟨(some 45), .op (.load 1 false (.tmp 44)), none⟩,
    ⟨(some 6), .op (.mv (.tmp 45)), none⟩]) (.kill [40, 41, 42, 43, 44, 45]))
  (.seq (.post (.post (.reg [⟨(some 46), .op (.mv (.tmp 4)), none⟩,
    ⟨(some 47), .op (.mv (.tmp 4)), none⟩,
    ⟨(some 48), .op (.len false (.tmp 47)), none⟩,
    ⟨(some 49), .op (.bin .sub (.tmp 48) (.const (Value.int .i64 1))), none⟩,
    ⟨(some 50), .op (.slcS (.tmp 46) none (some (.tmp 49)) none 1), none⟩,
    ⟨(some 4), .op (.mv (.tmp 50)), none⟩]) (.kill [46, 47, 48, 49, 50])) .nv)
  (.seq (.post (.reg [⟨(some 51), .op (.mv (.tmp 3)), none⟩,
    ⟨(some 52), .op (.mv (.tmp 6)), none⟩,
    ⟨(some 53), .op (.mv (.tmp 5)), none⟩,
    ⟨(some 54), .op (.iaddrS (.tmp 51) (.tmp 52) 1), none⟩,
    ⟨none, .op (.store 1 (.tmp 54) (.tmp 53)), none⟩]) (.kill [51, 52, 53, 54]))
  (.post (.post (.reg [⟨(some 55), .op (.mv (.tmp 3)), none⟩,
    ⟨(some 56), .op (.mv (.tmp 6)), none⟩,
    ⟨(some 57), .op (.lits true 1 1 (Value.int .i64 0) [(0, (.tmp 56))]), none⟩,
    ⟨(some 58), .op (.append (.tmp 55) (.tmp 57) 1 8), none⟩,
    ⟨(some 3), .op (.mv (.tmp 58)), none⟩]) (.kill [6, 55, 56, 57, 58])) .nv)))))
  (.ghost (.kill [30]) (.seq (.post (.reg [⟨(some 60), .op (.mv (.tmp 0)), none⟩,
    ⟨(some 61), .op (.mv (.tmp 5)), none⟩,
    ⟨(some 62), .op (.idxStr (.tmp 60) (.tmp 61)), none⟩,
    ⟨(some 63), .call (.func i_spec_l01Return) [(.tmp 62)], none⟩,
    ⟨(some 59), .op (.mv (.tmp 63)), none⟩]) (.kill [60, 61, 62, 63]))
  (.cond (.tmp 59) (.ghost (.kill [59]) (.post (.post (.reg [⟨(some 64), .op (.mv (.tmp 3)), none⟩,
    ⟨(some 65), .op (.lits true 1 1 (Value.int .i64 0) [(0, (.const (Value.int .i64 (-2))))]), none⟩,
    ⟨(some 66), .op (.append (.tmp 64) (.tmp 65) 1 8), none⟩,
    ⟨(some 3), .op (.mv (.tmp 66)), none⟩]) (.kill [64, 65, 66])) .nv))
  (.ghost (.kill [59]) (.post (.post (.reg [⟨(some 15), .op (.mv (.tmp 3)), none⟩,
    ⟨(some 16), .op (.lits true 1 1 (Value.int .i64 0) [(0, (.const (Value.int .i64 (-1))))]), none⟩,
    ⟨(some 17), .op (.append (.tmp 15) (.tmp 16) 1 8), none⟩,
    ⟨(some 3), .op (.mv (.tmp 17)), none⟩]) (.kill [15, 16, 17])) .nv))))))))))))
  (.post (.reg [⟨(some 13), .op (.mv (.tmp 5)), none⟩,
    ⟨(some 14), .op (.bin .add (.tmp 13) (.const (Value.int .i64 1))), none⟩,
    ⟨(some 5), .op (.mv (.tmp 14)), none⟩]) (.kill [13, 14])))) .nv)
def lo_spec_l01Partners_0 : AC := (.loop lb_spec_l01Partners_0)
def ac_spec_l01Partners : AC := (.seq (.post (.reg [⟨(some 2), .op (.mv (.const (Value.slice none 0 0))), none⟩]) (.kill [2]))
  (.seq (.post (.reg [⟨(some 7), .op (.lits true 1 0 (Value.int .i64 0) []), none⟩,
    ⟨(some 3), .op (.mv (.tmp 7)), none⟩]) (.kill [7]))
  (.seq (.post (.reg [⟨(some 8), .op (.lits true 1 0 (Value.int .i64 0) []), none⟩,
    ⟨(some 4), .op (.mv (.tmp 8)), none⟩]) (.kill [8]))
  (.seq (.seq (.reg [⟨(some 5), .op (.mv (.const (Value.int .i64 0))), none⟩])
  (.post (.block 0 (.ghost (.ow 3 none 1) (.ghost (.ow 4 none 1) (.ghost .nv lo_spec_l01Partners_0)))) .nv))
  (.ghost (.kill [0, 4, 5]) (.seq (.post (.reg [⟨(some 67), .op (.mv (.tmp 3)), none⟩,
    ⟨(some 2), .op (.mv (.tmp 67)), none⟩]) (.kill [3, 67]))
  .ret))))))
theorem cf_spec_l01Partners : chkFn Tryz.prog i_spec_l01Partners ac_spec_l01Partners [.tmp 2] 68 = true := by decide +kernel
def fa_spec_l01Partners : FnA := ⟨ac_spec_l01Partners, [.tmp 2], 68, false, true, [], .any, none⟩

/-- The checked code of spec l01Pending. -/
def lb_spec_l01Pending_0 : AC := (.seq (.seq (.post (.reg [⟨(some 10), .op (.mv (.tmp 7)), none⟩,
    ⟨(some 11), .op (.mv (.tmp 0)), none⟩,
    ⟨(some 12), .op (.len true (.tmp 11)), none⟩,
    ⟨(some 13), .op (.bin .lss (.tmp 10) (.tmp 12)), none⟩]) (.kill [10, 11, 12]))
  (.cond (.tmp 13) (.ghost (.kill [13]) .skip)
  (.ghost (.kill [0, 4, 7, 13]) (.exit 0))))
  (.seq (.block 1 (.seq (.seq (.post (.reg [⟨(some 16), .op (.mv (.tmp 4)), none⟩,
    ⟨(some 17), .op (.mv (.tmp 7)), none⟩,
    ⟨(some 18), .op (.iaddrS (.tmp 16) (.tmp 17) 1), none⟩,
    ⟨(some 19), .op (.load 1 false (.tmp 18)), none⟩,
    ⟨(some 20), .op (.bin .eql (.tmp 19) (.const (Value.int .i64 (-2)))), none⟩,
    ⟨(some 21), .op (.mv (.tmp 20)), none⟩,
    ⟨(some 22), .op (.mv (.tmp 0)), some (21, true)⟩,
    ⟨(some 23), .op (.mv (.tmp 7)), some (21, true)⟩,
    ⟨(some 24), .op (.idxStr (.tmp 22) (.tmp 23)), some (21, true)⟩,
    ⟨(some 25), .call (.func i_spec_l01Return) [(.tmp 24)], some (21, true)⟩,
    ⟨(some 26), .op (.pick (.tmp 21) (.tmp 25) (.const (Value.bool false))), none⟩]) (.kill [16, 17, 18, 19, 20, 21, 22, 23, 24, 25]))
  (.cond (.tmp 26) (.ghost (.kill [26]) (.post (.reg [⟨(some 27), .op (.mv (.tmp 5)), none⟩,
    ⟨(some 28), .op (.bin .add (.tmp 27) (.const (Value.int .i64 1))), none⟩,
    ⟨(some 5), .op (.mv (.tmp 28)), none⟩]) (.kill [27, 28])))
  (.ghost (.kill [26]) .skip)))
  (.seq (.post (.reg [⟨(some 29), .op (.mv (.tmp 4)), none⟩,
    ⟨(some 30), .op (.mv (.tmp 7)), none⟩,
    ⟨(some 31), .op (.iaddrS (.tmp 29) (.tmp 30) 1), none⟩,
    ⟨(some 32), .op (.load 1 false (.tmp 31)), none⟩,
    ⟨(some 33), .op (.bin .eql (.tmp 32) (.const (Value.int .i64 (-2)))), none⟩,
    ⟨(some 34), .op (.mv (.tmp 33)), none⟩,
    ⟨(some 35), .op (.mv (.tmp 0)), some (34, true)⟩,
    ⟨(some 36), .op (.mv (.tmp 7)), some (34, true)⟩,
    ⟨(some 37), .op (.idxStr (.tmp 35) (.tmp 36)), some (34, true)⟩,
    ⟨(some 38), .call (.func i_spec_l01Call) [(.tmp 37)], some (34, true)⟩,
    ⟨(some 39), .op (.pick (.tmp 34) (.tmp 38) (.const (Value.bool false))), none⟩]) (.kill [29, 30, 31, 32, 33, 34, 35, 36, 37, 38]))
  (.cond (.tmp 39) (.ghost (.kill [39]) (.post (.reg [⟨(some 40), .op (.mv (.tmp 6)), none⟩,
    ⟨(some 41), .op (.bin .add (.tmp 40) (.const (Value.int .i64 1))), none⟩,
    ⟨(some 6), .op (.mv (.tmp 41)), none⟩]) (.kill [40, 41])))
  (.ghost (.kill [39]) .skip)))))
  (.post (.reg [⟨(some 14), .op (.mv (.tmp 7)), none⟩,
    ⟨(some 15), .op (.bin .add (.tmp 14) (.const (Value.int .i64 1))), none⟩,
    ⟨(some 7), .op (.mv (.tmp 15)), none⟩]) (.kill [14, 15]))))
def lo_spec_l01Pending_0 : AC := (.loop lb_spec_l01Pending_0)
def ac_spec_l01Pending : AC := (.seq (.post (.reg [⟨(some 2), .op (.mv (.const (Value.int .i64 0))), none⟩,
    ⟨(some 3), .op (.mv (.const (Value.int .i64 0))), none⟩]) (.kill [2, 3]))
  (.seq (.post (.reg [⟨(some 8), .op (.mv (.tmp 0)), none⟩,
    ⟨(some 9), .call (.func i_spec_l01Partners) [(.tmp 8)], none⟩,
    ⟨(some 4), .op (.mv (.tmp 9)), none⟩]) (.kill [8, 9]))
  (.seq (.reg [⟨(some 5), .op (.mv (.const (Value.int .i64 0))), none⟩])
  (.seq (.reg [⟨(some 6), .op (.mv (.const (Value.int .i64 0))), none⟩])
  (.seq (.seq (.reg [⟨(some 7), .op (.mv (.const (Value.int .i64 0))), none⟩])
  (.block 0 lo_spec_l01Pending_0))
  (.ghost (.kill [0, 4, 7]) (.seq (.post (.reg [⟨(some 42), .op (.mv (.tmp 5)), none⟩,
    ⟨(some 43), .op (.mv (.tmp 6)), none⟩,
    ⟨(some 2), .op (.mv (.tmp 42)), none⟩,
    ⟨(some 3), .op (.mv (.tmp 43)), none⟩]) (.kill [5, 6, 42, 43]))
  .ret)))))))
theorem cf_spec_l01Pending : chkFn Tryz.prog i_spec_l01Pending ac_spec_l01Pending [.tmp 2, .tmp 3] 44 = true := by decide +kernel
def fa_spec_l01Pending : FnA := ⟨ac_spec_l01Pending, [.tmp 2, .tmp 3], 44, false, true, [], .any, none⟩

/-- The checked code of spec l01Matched. -/
def ac_spec_l01Matched : AC := (.seq (.post (.reg [⟨(some 2), .op (.mv (.const (Value.bool false))), none⟩]) (.kill [2]))
  (.seq (.post (.reg [⟨(some 6), .op (.mv (.tmp 0)), none⟩,
    ⟨(some 7), .call (.func i_spec_l01Pending) [(.tmp 6)], none⟩,
    ⟨(some 5), .op (.mv (.tmp 7)), none⟩,
    ⟨(some 8), .op (.ext (.tmp 5) 0), none⟩,
    ⟨(some 9), .op (.ext (.tmp 5) 1), none⟩,
    ⟨(some 3), .op (.mv (.tmp 8)), none⟩,
    ⟨(some 4), .op (.mv (.tmp 9)), none⟩]) (.kill [0, 5, 6, 7, 8, 9]))
  (.seq (.post (.reg [⟨(some 10), .op (.mv (.tmp 3)), none⟩,
    ⟨(some 11), .op (.mv (.tmp 4)), none⟩,
    ⟨(some 12), .op (.bin .add (.tmp 10) (.tmp 11)), none⟩,
    ⟨(some 13), .op (.bin .eql (.tmp 12) (.const (Value.int .i64 0))), none⟩,
    ⟨(some 2), .op (.mv (.tmp 13)), none⟩]) (.kill [3, 4, 10, 11, 12, 13]))
  .ret)))
theorem cf_spec_l01Matched : chkFn Tryz.prog i_spec_l01Matched ac_spec_l01Matched [.tmp 2] 14 = true := by decide +kernel
def fa_spec_l01Matched : FnA := ⟨ac_spec_l01Matched, [.tmp 2], 14, false, true, [], .any, none⟩

/-- The checked code of spec l03Begin. -/
def lb_spec_l03Begin_0 : AC := (.post (.seq (.seq (.post (.reg [⟨(some 9), .op (.mv (.tmp 6)), none⟩,
    ⟨(some 10), .op (.mv (.tmp 0)), none⟩,
    ⟨(some 11), .op (.nilc (.tmp 10)), none⟩,
    ⟨(some 12), .op (.faddr (.tmp 11) 2), none⟩,
    ⟨(some 13), .op (.load 1 false (.tmp 12)), none⟩,
    ⟨(some 14), .op (.len false (.tmp 13)), none⟩,
    ⟨(some 15), .op (.bin .lss (.tmp 9) (.tmp 14)), none⟩]) (.kill [9, 10, 11, 12, 13, 14]))
  (.cond (.tmp 15) (.ghost (.kill [15]) .skip)
  (.ghost (.kill [0, 6, 15]) (.exit 0))))
  (.seq (.block 1 (.post (.reg [⟨(some 18), .op (.mv (.tmp 6)), none⟩,
    ⟨(some 19), .op (.mv (.tmp 6)), none⟩,
    ⟨(some 20), .op (.conv .u64 (.tmp 19)), none⟩,
    ⟨(some 21), .op (.bin .shl (.const (Value.int .i64 1)) (.tmp 20)), none⟩,
    ⟨(some 22), .op (.faddr (.tmp 5) 0), none⟩,
    ⟨(some 23), .op (.iaddrA (.tmp 22) (.tmp 18) 5 1), none⟩,
    ⟨none, .op (.store 1 (.tmp 23) (.tmp 21)), none⟩]) (.kill [18, 19, 20, 21, 22, 23])))
  (.post (.reg [⟨(some 16), .op (.mv (.tmp 6)), none⟩,
    ⟨(some 17), .op (.bin .add (.tmp 16) (.const (Value.int .i64 1))), none⟩,
    ⟨(some 6), .op (.mv (.tmp 17)), none⟩]) (.kill [16, 17])))) .nv)
def lo_spec_l03Begin_0 : AC := (.loop lb_spec_l03Begin_0)
def ac_spec_l03Begin : AC := (.seq (.reg [⟨(some 4), .op (.alloc (Value.agg #[Value.int .i64 0, Value.int .i64 0, Value.int .i64 0, Value.int .i64 0, Value.int .i64 0, Value.int .i64 0])), none⟩])
  (.seq (.post (.reg [⟨(some 7), .op (.mv (.tmp 1)), none⟩,
    ⟨(some 8), .op (.build [Value.int .i64 0, Value.int .i64 0, Value.int .i64 0, Value.int .i64 0, Value.int .i64 0, Value.int .i64 0] [(5, 1, (.tmp 7))]), none⟩,
    ⟨(some 5), .op (.alloc (Value.agg #[Value.int .i64 0, Value.int .i64 0, Value.int .i64 0, Value.int .i64 0, Value.int .i64 0, Value.int .i64 0])), none⟩,
    ⟨none, .op (.store 6 (.tmp 5) (.tmp 8)), none⟩]) (.kill [1, 7, 8]))
  (.seq (.seq (.reg [⟨(some 6), .op (.mv (.const (Value.int .i64 0))), none⟩])
  (.post (.block 0 (.ghost .nv lo_spec_l03Begin_0)) .nv))
  (.ghost (.kill [0, 6]) (.seq (.post (.reg [⟨(some 24), .op (.load 6 true (.tmp 5)), none⟩,
    ⟨none, .op (.store 6 (.tmp 4) (.tmp 24)), none⟩]) (.kill [5, 24]))
  .ret)))))
theorem cf_spec_l03Begin : chkFn Tryz.prog i_spec_l03Begin ac_spec_l03Begin [.cell 4 6 true] 25 = true := by decide +kernel
def fa_spec_l03Begin : FnA := ⟨ac_spec_l03Begin, [.cell 4 6 true], 25, false, true, [], .any, none⟩

/-- The checked code of spec l03Bits. -/
def lb_spec_l03Bits_0 : AC := (.seq (.seq (.post (.reg [⟨(some 5), .op (.mv (.tmp 4)), none⟩,
    ⟨(some 6), .op (.mv (.tmp 0)), none⟩,
    ⟨(some 7), .op (.len false (.tmp 6)), none⟩,
    ⟨(some 8), .op (.bin .lss (.tmp 5) (.tmp 7)), none⟩]) (.kill [5, 6, 7]))
  (.cond (.tmp 8) (.ghost (.kill [8]) .skip)
  (.ghost (.kill [0, 4, 8]) (.exit 0))))
  (.seq (.block 1 (.post (.reg [⟨(some 11), .op (.mv (.tmp 3)), none⟩,
    ⟨(some 12), .op (.mv (.tmp 0)), none⟩,
    ⟨(some 13), .op (.mv (.tmp 4)), none⟩,
    ⟨(some 14), .op (.iaddrS (.tmp 12) (.tmp 13) 1), none⟩,
    ⟨(some 15), .op (.load 1 false (.tmp 14)), none⟩,
    ⟨(some 16), .op (.conv .u64 (.tmp 15)), none⟩,
    ⟨(some 17), .op (.bin .shl (.const (Value.int .i64 1)) (.tmp 16)), none⟩,
    ⟨(some 18), .op (.bin .or (.tmp 11) (.tmp 17)), none⟩,
    ⟨(some 3), .op (.mv (.tmp 18)), none⟩]) (.kill [11, 12, 13, 14, 15, 16, 17, 18])))
  (.post (.reg [⟨(some 9), .op (.mv (.tmp 4)), none⟩,
    ⟨(some 10), .op (.bin .add (.tmp 9) (.const (Value.int .i64 1))), none⟩,
    ⟨(some 4), .op (.mv (.tmp 10)), none⟩]) (.kill [9, 10]))))
def lo_spec_l03Bits_0 : AC := (.loop lb_spec_l03Bits_0)
def ac_spec_l03Bits : AC := (.seq (.post (.reg [⟨(some 2), .op (.mv (.const (Value.int .i64 0))), none⟩]) (.kill [2]))
  (.seq (.reg [⟨(some 3), .op (.mv (.const (Value.int .i64 0))), none⟩])
  (.seq (.seq (.reg [⟨(some 4), .op (.mv (.const (Value.int .i64 0))), none⟩])
  (.block 0 lo_spec_l03Bits_0))
  (.ghost (.kill [0, 4]) (.seq (.post (.reg [⟨(some 19), .op (.mv (.tmp 3)), none⟩,
    ⟨(some 2), .op (.mv (.tmp 19)), none⟩]) (.kill [3, 19]))
  .ret)))))
theorem cf_spec_l03Bits : chkFn Tryz.prog i_spec_l03Bits ac_spec_l03Bits [.tmp 2] 20 = true := by decide +kernel
def fa_spec_l03Bits : FnA := ⟨ac_spec_l03Bits, [.tmp 2], 20, false, true, [], .any, none⟩

/-- The checked code of spec l03List. -/
def lb_spec_l03List_0 : AC := (.post (.seq (.seq (.post (.reg [⟨(some 6), .op (.mv (.tmp 0)), none⟩,
    ⟨(some 7), .op (.mv (.tmp 4)), none⟩,
    ⟨(some 8), .op (.conv .u64 (.tmp 7)), none⟩,
    ⟨(some 9), .op (.bin .shr (.tmp 6) (.tmp 8)), none⟩,
    ⟨(some 10), .op (.bin .gtr (.tmp 9) (.const (Value.int .i64 0))), none⟩]) (.kill [6, 7, 8, 9]))
  (.cond (.tmp 10) (.ghost (.kill [10]) .skip)
  (.ghost (.kill [0, 4, 10]) (.exit 0))))
  (.seq (.block 1 (.seq (.post (.reg [⟨(some 13), .op (.mv (.tmp 0)), none⟩,
    ⟨(some 14), .op (.mv (.tmp 4)), none⟩,
    ⟨(some 15), .op (.conv .u64 (.tmp 14)), none⟩,
    ⟨(some 16), .op (.bin .shr (.tmp 13) (.tmp 15)), none⟩,
    ⟨(some 17), .op (.bin .and (.tmp 16) (.const (Value.int .i64 1))), none⟩,
    ⟨(some 18), .op (.bin .eql (.tmp 17) (.const (Value.int .i64 1))), none⟩]) (.kill [13, 14, 15, 16, 17]))
  (.cond (.tmp 18) (.ghost (.kill [18]) (.post (.post (.reg [⟨(some 19), .op (.mv (.tmp 3)), none⟩,
    ⟨(some 20), .op (.mv (.tmp 4)), none⟩,
    ⟨(some 21), .op (.lits true 1 1 (Value.int .i64 0) [(0, (.tmp 20))]), none⟩,
    ⟨(some 22), .op (.append (.tmp 19) (.tmp 21) 1 8), none⟩,
    ⟨(some 3), .op (.mv (.tmp 22)), none⟩]) (.kill [19, 20, 21, 22])) .nv))
  (.ghost (.kill [18]) .skip))))
  (.post (.reg [⟨(some 11), .op (.mv (.tmp 4)), none⟩,
    ⟨(some 12), .op (.bin .add (.tmp 11) (.const (Value.int .i64 1))), none⟩,
    ⟨(some 4), .op (.mv (.tmp 12)), none⟩]) (.kill [11, 12])))) .nv)
def lo_spec_l03List_0 : AC := (.loop lb_spec_l03List_0)
def ac_spec_l03List : AC := (.seq (.post (.reg [⟨(some 2), .op (.mv (.const (Value.slice none 0 0))), none⟩]) (.kill [2]))
  (.seq (.post (.reg [⟨(some 5), .op (.lits true 1 0 (Value.int .i64 0) []), none⟩,
    ⟨(some 3), .op (.mv (.tmp 5)), none⟩]) (.kill [5]))
  (.seq (.seq (.reg [⟨(some 4), .op (.mv (.const (Value.int .i64 0))), none⟩])
  (.post (.block 0 (.ghost (.ow 3 none 1) (.ghost .nv lo_spec_l03List_0))) .nv))
  (.ghost (.kill [0, 4]) (.seq (.post (.reg [⟨(some 23), .op (.mv (.tmp 3)), none⟩,
    ⟨(some 2), .op (.mv (.tmp 23)), none⟩]) (.kill [3, 23]))
  .ret)))))
theorem cf_spec_l03List : chkFn Tryz.prog i_spec_l03List ac_spec_l03List [.tmp 2] 24 = true := by decide +kernel
def fa_spec_l03List : FnA := ⟨ac_spec_l03List, [.tmp 2], 24, false, true, [], .any, none⟩

/-- The checked code of spec l03Image. -/
def lb_spec_l03Image_0 : AC := (.seq (.seq (.post (.reg [⟨(some 7), .op (.mv (.tmp 6)), none⟩,
    ⟨(some 8), .op (.mv (.tmp 1)), none⟩,
    ⟨(some 9), .op (.len false (.tmp 8)), none⟩,
    ⟨(some 10), .op (.bin .lss (.tmp 7) (.tmp 9)), none⟩]) (.kill [7, 8, 9]))
  (.cond (.tmp 10) (.ghost (.kill [10]) .skip)
  (.ghost (.kill [0, 1, 6, 10]) (.exit 0))))
  (.seq (.block 1 (.seq (.post (.reg [⟨(some 13), .op (.mv (.tmp 0)), none⟩,
    ⟨(some 14), .op (.mv (.tmp 6)), none⟩,
    ⟨(some 15), .op (.conv .u64 (.tmp 14)), none⟩,
    ⟨(some 16), .op (.bin .shr (.tmp 13) (.tmp 15)), none⟩,
    ⟨(some 17), .op (.bin .and (.tmp 16) (.const (Value.int .i64 1))), none⟩,
    ⟨(some 18), .op (.bin .eql (.tmp 17) (.const (Value.int .i64 1))), none⟩]) (.kill [13, 14, 15, 16, 17]))
  (.cond (.tmp 18) (.ghost (.kill [18]) (.post (.reg [⟨(some 19), .op (.mv (.tmp 5)), none⟩,
    ⟨(some 20), .op (.mv (.tmp 1)), none⟩,
    ⟨(some 21), .op (.mv (.tmp 6)), none⟩,
    ⟨(some 22), .op (.iaddrS (.tmp 20) (.tmp 21) 1), none⟩,
    ⟨(some 23), .op (.load 1 false (.tmp 22)), none⟩,
    ⟨(some 24), .op (.bin .or (.tmp 19) (.tmp 23)), none⟩,
    ⟨(some 5), .op (.mv (.tmp 24)), none⟩]) (.kill [19, 20, 21, 22, 23, 24])))
  (.ghost (.kill [18]) .skip))))
  (.post (.reg [⟨(some 11), .op (.mv (.tmp 6)), none⟩,
    ⟨(some 12), .op (.bin .add (.tmp 11) (.const (Value.int .i64 1))), none⟩,
    ⟨(some 6), .op (.mv (.tmp 12)), none⟩]) (.kill [11, 12]))))
def lo_spec_l03Image_0 : AC := (.loop lb_spec_l03Image_0)
def ac_spec_l03Image : AC := (.seq (.post (.reg [⟨(some 4), .op (.mv (.const (Value.int .i64 0))), none⟩]) (.kill [4]))
  (.seq (.reg [⟨(some 5), .op (.mv (.const (Value.int .i64 0))), none⟩])
  (.seq (.seq (.reg [⟨(some 6), .op (.mv (.const (Value.int .i64 0))), none⟩])
  (.block 0 lo_spec_l03Image_0))
  (.ghost (.kill [0, 1, 6]) (.seq (.post (.reg [⟨(some 25), .op (.mv (.tmp 5)), none⟩,
    ⟨(some 4), .op (.mv (.tmp 25)), none⟩]) (.kill [5, 25]))
  .ret)))))
theorem cf_spec_l03Image : chkFn Tryz.prog i_spec_l03Image ac_spec_l03Image [.tmp 4] 26 = true := by decide +kernel
def fa_spec_l03Image : FnA := ⟨ac_spec_l03Image, [.tmp 4], 26, false, true, [.any, (.lst 1 .any)], .any, none⟩

/-- The checked code of spec l03Moved. -/
def lb_spec_l03Moved_0 : AC := (.post (.seq (.seq (.post (.reg [⟨(some 12), .op (.mv (.tmp 6)), none⟩,
    ⟨(some 13), .op (.bin .lss (.tmp 12) (.const (Value.int .i64 5))), none⟩]) (.kill [12]))
  (.cond (.tmp 13) (.ghost (.kill [13]) .skip)
  (.ghost (.kill [1, 2, 6, 13]) (.exit 0))))
  (.seq (.block 1 (.post (.reg [⟨(some 16), .op (.mv (.tmp 6)), none⟩,
    ⟨(some 17), .op (.mv (.tmp 6)), none⟩,
    ⟨(some 18), .op (.faddr (.tmp 2) 0), none⟩,
    ⟨(some 19), .op (.iaddrA (.tmp 18) (.tmp 17) 5 1), none⟩,
    ⟨(some 20), .op (.load 1 false (.tmp 19)), none⟩,
    ⟨(some 21), .op (.mv (.tmp 1)), none⟩,
    ⟨(some 22), .call (.func i_spec_l03Image) [(.tmp 20), (.tmp 21)], none⟩,
    ⟨(some 23), .op (.faddr (.tmp 5) 0), none⟩,
    ⟨(some 24), .op (.iaddrA (.tmp 23) (.tmp 16) 5 1), none⟩,
    ⟨none, .op (.store 1 (.tmp 24) (.tmp 22)), none⟩]) (.kill [16, 17, 18, 19, 20, 21, 22, 23, 24])))
  (.post (.reg [⟨(some 14), .op (.mv (.tmp 6)), none⟩,
    ⟨(some 15), .op (.bin .add (.tmp 14) (.const (Value.int .i64 1))), none⟩,
    ⟨(some 6), .op (.mv (.tmp 15)), none⟩]) (.kill [14, 15])))) .nv)
def lo_spec_l03Moved_0 : AC := (.loop lb_spec_l03Moved_0)
def ac_spec_l03Moved : AC := (.seq (.post (.reg [⟨(some 2), .op (.box true (.tmp 0)), none⟩,
    ⟨(some 4), .op (.alloc (Value.agg #[Value.int .i64 0, Value.int .i64 0, Value.int .i64 0, Value.int .i64 0, Value.int .i64 0, Value.int .i64 0])), none⟩]) (.kill [0]))
  (.seq (.post (.reg [⟨(some 7), .op (.faddr (.tmp 2) 5), none⟩,
    ⟨(some 8), .op (.load 1 false (.tmp 7)), none⟩,
    ⟨(some 9), .op (.mv (.tmp 1)), none⟩,
    ⟨(some 10), .call (.func i_spec_l03Image) [(.tmp 8), (.tmp 9)], none⟩,
    ⟨(some 11), .op (.build [Value.int .i64 0, Value.int .i64 0, Value.int .i64 0, Value.int .i64 0, Value.int .i64 0, Value.int .i64 0] [(5, 1, (.tmp 10))]), none⟩,
    ⟨(some 5), .op (.alloc (Value.agg #[Value.int .i64 0, Value.int .i64 0, Value.int .i64 0, Value.int .i64 0, Value.int .i64 0, Value.int .i64 0])), none⟩,
    ⟨none, .op (.store 6 (.tmp 5) (.tmp 11)), none⟩]) (.kill [7, 8, 9, 10, 11]))
  (.seq (.seq (.reg [⟨(some 6), .op (.mv (.const (Value.int .i64 0))), none⟩])
  (.post (.block 0 (.ghost .nv lo_spec_l03Moved_0)) .nv))
  (.ghost (.kill [1, 2, 6]) (.seq (.post (.reg [⟨(some 25), .op (.load 6 true (.tmp 5)), none⟩,
    ⟨none, .op (.store 6 (.tmp 4) (.tmp 25)), none⟩]) (.kill [5, 25]))
  .ret)))))
theorem cf_spec_l03Moved : chkFn Tryz.prog i_spec_l03Moved ac_spec_l03Moved [.cell 4 6 true] 26 = true := by decide +kernel
def fa_spec_l03Moved : FnA := ⟨ac_spec_l03Moved, [.cell 4 6 true], 26, false, true, [.any, (.lst 1 .any)], .any, none⟩

/-- The checked code of spec l03Back. -/
def lb_spec_l03Back_0 : AC := (.post (.seq (.seq (.post (.reg [⟨(some 62), .op (.mv (.tmp 17)), none⟩,
    ⟨(some 63), .op (.mv (.tmp 16)), none⟩,
    ⟨(some 64), .op (.len false (.tmp 63)), none⟩,
    ⟨(some 65), .op (.bin .lss (.tmp 62) (.tmp 64)), none⟩]) (.kill [62, 63, 64]))
  (.cond (.tmp 65) (.ghost (.kill [65]) .skip)
  (.ghost (.kill [15, 16, 17, 65]) (.exit 4))))
  (.seq (.block 5 (.post (.draw [⟨0, ⟨(some 68), .op (.mv (.tmp 13)), none⟩, []⟩,
    ⟨1, ⟨(some 69), .op (.mv (.tmp 0)), none⟩, []⟩,
    ⟨2, ⟨(some 70), .op (.nilc (.tmp 69)), none⟩, []⟩,
    ⟨3, ⟨(some 71), .op (.faddr (.tmp 70) 4), none⟩, []⟩,
    ⟨4, ⟨(some 72), .op (.load 1 false (.tmp 71)), none⟩, []⟩,
    ⟨5, ⟨(some 73), .op (.mv (.tmp 16)), none⟩, []⟩,
    ⟨6, ⟨(some 74), .op (.mv (.tmp 17)), none⟩, []⟩,
    ⟨7, ⟨(some 75), .op (.iaddrS (.tmp 73) (.tmp 74) 1), none⟩, []⟩,
    ⟨8, ⟨(some 76), .op (.load 1 false (.tmp 75)), none⟩, []⟩,
    ⟨9, ⟨(some 77), .op (.iaddrS (.tmp 72) (.tmp 76) 1), none⟩, []⟩,
    ⟨10, ⟨(some 78), .op (.load 1 false (.tmp 77)), none⟩, []⟩,
    ⟨11, ⟨(some 79), .op (.mv (.tmp 4)), none⟩, []⟩,
    ⟨12, ⟨(some 80), .op (.iaddrS (.tmp 78) (.tmp 79) 1), none⟩, []⟩,
    ⟨13, ⟨(some 81), .op (.load 1 false (.tmp 80)), none⟩, []⟩,
    ⟨14, ⟨(some 82), .op (.faddr (.tmp 15) 1), none⟩, []⟩,
    ⟨15, ⟨(some 83), .op (.load 1 false (.tmp 82)), none⟩, []⟩,
    ⟨16, ⟨(some 84), .op (.iaddrS (.tmp 81) (.tmp 83) 1), none⟩, []⟩,
    ⟨17, ⟨(some 85), .op (.load 1 false (.tmp 84)), none⟩, []⟩,
    ⟨18, ⟨(some 86), .call (.func i_spec_l03Bits) [(.tmp 85)], none⟩, []⟩,
    ⟨19, ⟨(some 87), .op (.bin .or (.tmp 68) (.tmp 86)), none⟩, []⟩,
    ⟨20, ⟨(some 13), .op (.mv (.tmp 87)), none⟩, []⟩]
    [0, 0, 2, 6, 14, 0, 0, 96, 224, 510, 1022, 0, 4094, 8190, 0, 16384, 65534, 131070, 262142, 524287, 1048575]) (.kill [68, 69, 70, 71, 72, 73, 74, 75, 76, 77, 78, 79, 80, 81, 82, 83, 84, 85, 86, 87])))
  (.post (.reg [⟨(some 66), .op (.mv (.tmp 17)), none⟩,
    ⟨(some 67), .op (.bin .add (.tmp 66) (.const (Value.int .i64 1))), none⟩,
    ⟨(some 17), .op (.mv (.tmp 67)), none⟩]) (.kill [66, 67])))) .nv)
def lo_spec_l03Back_0 : AC := (.loop lb_spec_l03Back_0)
def lb_spec_l03Back_1 : AC := (.post (.seq (.seq (.post (.reg [⟨(some 28), .op (.mv (.tmp 14)), none⟩,
    ⟨(some 29), .op (.mv (.tmp 0)), none⟩,
    ⟨(some 30), .op (.nilc (.tmp 29)), none⟩,
    ⟨(some 31), .op (.faddr (.tmp 30) 3), none⟩,
    ⟨(some 32), .op (.load 1 false (.tmp 31)), none⟩,
    ⟨(some 33), .op (.mv (.tmp 12)), none⟩,
    ⟨(some 34), .op (.iaddrS (.tmp 32) (.tmp 33) 1), none⟩,
    ⟨(some 35), .op (.load 1 false (.tmp 34)), none⟩,
    ⟨(some 36), .op (.mv (.tmp 3)), none⟩,
    ⟨(some 37), .op (.iaddrS (.tmp 35) (.tmp 36) 1), none⟩,
    ⟨(some 38), .op (.load 1 false (.tmp 37)), none⟩,
    ⟨(some 39), .op (.len false (.tmp 38)), none⟩,
    ⟨(some 40), .op (.bin .lss (.tmp 28) (.tmp 39)), none⟩]) (.kill [28, 29, 30, 31, 32, 33, 34, 35, 36, 37, 38, 39]))
  (.cond (.tmp 40) (.ghost (.kill [40]) .skip)
  (.ghost (.kill [14, 40]) (.exit 2))))
  (.seq (.block 3 (.seq (.post (.reg [⟨(some 43), .op (.mv (.tmp 0)), none⟩,
    ⟨(some 44), .op (.nilc (.tmp 43)), none⟩,
    ⟨(some 45), .op (.faddr (.tmp 44) 3), none⟩,
    ⟨(some 46), .op (.load 1 false (.tmp 45)), none⟩,
    ⟨(some 47), .op (.mv (.tmp 12)), none⟩,
    ⟨(some 48), .op (.iaddrS (.tmp 46) (.tmp 47) 1), none⟩,
    ⟨(some 49), .op (.load 1 false (.tmp 48)), none⟩,
    ⟨(some 50), .op (.mv (.tmp 3)), none⟩,
    ⟨(some 51), .op (.iaddrS (.tmp 49) (.tmp 50) 1), none⟩,
    ⟨(some 52), .op (.load 1 false (.tmp 51)), none⟩,
    ⟨(some 53), .op (.mv (.tmp 14)), none⟩,
    ⟨(some 54), .op (.iaddrS (.tmp 52) (.tmp 53) 2), none⟩,
    ⟨(some 55), .op (.load 2 true (.tmp 54)), none⟩,
    ⟨(some 15), .op (.alloc (Value.agg #[Value.int .i64 0, Value.int .i64 0])), none⟩,
    ⟨none, .op (.store 2 (.tmp 15) (.tmp 55)), none⟩]) (.kill [43, 44, 45, 46, 47, 48, 49, 50, 51, 52, 53, 54, 55]))
  (.seq (.post (.reg [⟨(some 56), .op (.faddr (.tmp 15) 0), none⟩,
    ⟨(some 57), .op (.load 1 false (.tmp 56)), none⟩,
    ⟨(some 58), .op (.faddr (.tmp 6) 0), none⟩,
    ⟨(some 59), .op (.iaddrA (.tmp 58) (.tmp 57) 5 1), none⟩,
    ⟨(some 60), .op (.load 1 false (.tmp 59)), none⟩,
    ⟨(some 61), .call (.func i_spec_l03List) [(.tmp 60)], none⟩,
    ⟨(some 16), .op (.mv (.tmp 61)), none⟩]) (.kill [56, 57, 58, 59, 60, 61]))
  (.seq (.reg [⟨(some 17), .op (.mv (.const (Value.int .i64 0))), none⟩])
  (.post (.block 4 (.ghost (.ow 11 none 1) (.ghost .nv lo_spec_l03Back_0))) .nv)))))
  (.ghost (.kill [15, 16, 17]) (.post (.reg [⟨(some 41), .op (.mv (.tmp 14)), none⟩,
    ⟨(some 42), .op (.bin .add (.tmp 41) (.const (Value.int .i64 1))), none⟩,
    ⟨(some 14), .op (.mv (.tmp 42)), none⟩]) (.kill [41, 42]))))) .nv)
def lo_spec_l03Back_1 : AC := (.loop lb_spec_l03Back_1)
def lb_spec_l03Back_2 : AC := (.post (.seq (.seq (.post (.reg [⟨(some 19), .op (.mv (.tmp 12)), none⟩,
    ⟨(some 20), .op (.mv (.tmp 0)), none⟩,
    ⟨(some 21), .op (.nilc (.tmp 20)), none⟩,
    ⟨(some 22), .op (.faddr (.tmp 21) 2), none⟩,
    ⟨(some 23), .op (.load 1 false (.tmp 22)), none⟩,
    ⟨(some 24), .op (.len false (.tmp 23)), none⟩,
    ⟨(some 25), .op (.bin .lss (.tmp 19) (.tmp 24)), none⟩]) (.kill [19, 20, 21, 22, 23, 24]))
  (.cond (.tmp 25) (.ghost (.kill [25]) .skip)
  (.ghost (.kill [0, 3, 4, 6, 12, 25]) (.exit 0))))
  (.seq (.block 1 (.seq (.reg [⟨(some 13), .op (.mv (.const (Value.int .i64 0))), none⟩])
  (.seq (.seq (.reg [⟨(some 14), .op (.mv (.const (Value.int .i64 0))), none⟩])
  (.post (.block 2 (.ghost (.ow 11 none 1) (.ghost .nv lo_spec_l03Back_1))) .nv))
  (.ghost (.kill [14]) (.post (.post (.reg [⟨(some 88), .op (.mv (.tmp 11)), none⟩,
    ⟨(some 89), .op (.mv (.tmp 13)), none⟩,
    ⟨(some 90), .op (.lits true 1 1 (Value.int .i64 0) [(0, (.tmp 89))]), none⟩,
    ⟨(some 91), .op (.append (.tmp 88) (.tmp 90) 1 8), none⟩,
    ⟨(some 11), .op (.mv (.tmp 91)), none⟩]) (.kill [13, 88, 89, 90, 91])) .nv)))))
  (.post (.reg [⟨(some 26), .op (.mv (.tmp 12)), none⟩,
    ⟨(some 27), .op (.bin .add (.tmp 26) (.const (Value.int .i64 1))), none⟩,
    ⟨(some 12), .op (.mv (.tmp 27)), none⟩]) (.kill [26, 27])))) .nv)
def lo_spec_l03Back_2 : AC := (.loop lb_spec_l03Back_2)
def ac_spec_l03Back : AC := (.seq (.post (.reg [⟨(some 6), .op (.box true (.tmp 1)), none⟩,
    ⟨(some 7), .op (.box true (.tmp 2)), none⟩,
    ⟨(some 10), .op (.alloc (Value.agg #[Value.int .i64 0, Value.int .i64 0, Value.int .i64 0, Value.int .i64 0, Value.int .i64 0, Value.int .i64 0])), none⟩]) (.kill [1, 2]))
  (.seq (.post (.reg [⟨(some 18), .op (.lits true 1 0 (Value.int .i64 0) []), none⟩,
    ⟨(some 11), .op (.mv (.tmp 18)), none⟩]) (.kill [18]))
  (.seq (.seq (.reg [⟨(some 12), .op (.mv (.const (Value.int .i64 0))), none⟩])
  (.post (.block 0 (.ghost (.ow 11 none 1) (.ghost .nv lo_spec_l03Back_2))) .nv))
  (.ghost (.kill [0, 3, 4, 6, 12]) (.seq (.post (.reg [⟨(some 92), .op (.load 6 true (.tmp 7)), none⟩,
    ⟨(some 93), .op (.mv (.tmp 11)), none⟩,
    ⟨(some 94), .call (.func i_spec_l03Moved) [(.tmp 92), (.tmp 93)], none⟩,
    ⟨none, .op (.store 6 (.tmp 10) (.tmp 94)), none⟩]) (.kill [7, 11, 92, 93, 94]))
  .ret)))))
theorem cf_spec_l03Back : chkFn Tryz.prog i_spec_l03Back ac_spec_l03Back [.cell 10 6 true] 95 = true := by decide +kernel
def fa_spec_l03Back : FnA := ⟨ac_spec_l03Back, [.cell 10 6 true], 95, false, true, [], .any, none⟩

/-- The checked code of spec l03Called. -/
def lb_spec_l03Called_0 : AC := (.post (.seq (.seq (.post (.reg [⟨(some 21), .op (.mv (.tmp 10)), none⟩,
    ⟨(some 22), .op (.mv (.tmp 0)), none⟩,
    ⟨(some 23), .op (.nilc (.tmp 22)), none⟩,
    ⟨(some 24), .op (.faddr (.tmp 23) 3), none⟩,
    ⟨(some 25), .op (.load 1 false (.tmp 24)), none⟩,
    ⟨(some 26), .op (.mv (.tmp 8)), none⟩,
    ⟨(some 27), .op (.iaddrS (.tmp 25) (.tmp 26) 1), none⟩,
    ⟨(some 28), .op (.load 1 false (.tmp 27)), none⟩,
    ⟨(some 29), .op (.mv (.tmp 2)), none⟩,
    ⟨(some 30), .op (.iaddrS (.tmp 28) (.tmp 29) 1), none⟩,
    ⟨(some 31), .op (.load 1 false (.tmp 30)), none⟩,
    ⟨(some 32), .op (.len false (.tmp 31)), none⟩,
    ⟨(some 33), .op (.bin .lss (.tmp 21) (.tmp 32)), none⟩]) (.kill [21, 22, 23, 24, 25, 26, 27, 28, 29, 30, 31, 32]))
  (.cond (.tmp 33) (.ghost (.kill [33]) .skip)
  (.ghost (.kill [10, 33]) (.exit 2))))
  (.seq (.block 3 (.post (.reg [⟨(some 36), .op (.mv (.tmp 9)), none⟩,
    ⟨(some 37), .op (.mv (.tmp 0)), none⟩,
    ⟨(some 38), .op (.nilc (.tmp 37)), none⟩,
    ⟨(some 39), .op (.faddr (.tmp 38) 3), none⟩,
    ⟨(some 40), .op (.load 1 false (.tmp 39)), none⟩,
    ⟨(some 41), .op (.mv (.tmp 8)), none⟩,
    ⟨(some 42), .op (.iaddrS (.tmp 40) (.tmp 41) 1), none⟩,
    ⟨(some 43), .op (.load 1 false (.tmp 42)), none⟩,
    ⟨(some 44), .op (.mv (.tmp 2)), none⟩,
    ⟨(some 45), .op (.iaddrS (.tmp 43) (.tmp 44) 1), none⟩,
    ⟨(some 46), .op (.load 1 false (.tmp 45)), none⟩,
    ⟨(some 47), .op (.mv (.tmp 10)), none⟩,
    ⟨(some 48), .op (.iaddrS (.tmp 46) (.tmp 47) 2), none⟩,
    ⟨(some 49), .op (.faddr (.tmp 48) 0), none⟩,
    ⟨(some 50), .op (.load 1 false (.tmp 49)), none⟩,
    ⟨(some 51), .op (.conv .u64 (.tmp 50)), none⟩,
    ⟨(some 52), .op (.bin .shl (.const (Value.int .i64 1)) (.tmp 51)), none⟩,
    ⟨(some 53), .op (.bin .or (.tmp 36) (.tmp 52)), none⟩,
    ⟨(some 9), .op (.mv (.tmp 53)), none⟩]) (.kill [36, 37, 38, 39, 40, 41, 42, 43, 44, 45, 46, 47, 48, 49, 50, 51, 52, 53])))
  (.post (.reg [⟨(some 34), .op (.mv (.tmp 10)), none⟩,
    ⟨(some 35), .op (.bin .add (.tmp 34) (.const (Value.int .i64 1))), none⟩,
    ⟨(some 10), .op (.mv (.tmp 35)), none⟩]) (.kill [34, 35])))) .nv)
def lo_spec_l03Called_0 : AC := (.loop lb_spec_l03Called_0)
def lb_spec_l03Called_1 : AC := (.post (.seq (.seq (.post (.reg [⟨(some 12), .op (.mv (.tmp 8)), none⟩,
    ⟨(some 13), .op (.mv (.tmp 0)), none⟩,
    ⟨(some 14), .op (.nilc (.tmp 13)), none⟩,
    ⟨(some 15), .op (.faddr (.tmp 14) 2), none⟩,
    ⟨(some 16), .op (.load 1 false (.tmp 15)), none⟩,
    ⟨(some 17), .op (.len false (.tmp 16)), none⟩,
    ⟨(some 18), .op (.bin .lss (.tmp 12) (.tmp 17)), none⟩]) (.kill [12, 13, 14, 15, 16, 17]))
  (.cond (.tmp 18) (.ghost (.kill [18]) .skip)
  (.ghost (.kill [2, 8, 18]) (.exit 0))))
  (.seq (.block 1 (.seq (.reg [⟨(some 9), .op (.mv (.const (Value.int .i64 0))), none⟩])
  (.seq (.seq (.reg [⟨(some 10), .op (.mv (.const (Value.int .i64 0))), none⟩])
  (.post (.block 2 (.ghost (.ow 7 none 1) (.ghost .nv lo_spec_l03Called_0))) .nv))
  (.ghost (.kill [10]) (.post (.post (.reg [⟨(some 54), .op (.mv (.tmp 7)), none⟩,
    ⟨(some 55), .op (.mv (.tmp 9)), none⟩,
    ⟨(some 56), .op (.lits true 1 1 (Value.int .i64 0) [(0, (.tmp 55))]), none⟩,
    ⟨(some 57), .op (.append (.tmp 54) (.tmp 56) 1 8), none⟩,
    ⟨(some 7), .op (.mv (.tmp 57)), none⟩]) (.kill [9, 54, 55, 56, 57])) .nv)))))
  (.post (.reg [⟨(some 19), .op (.mv (.tmp 8)), none⟩,
    ⟨(some 20), .op (.bin .add (.tmp 19) (.const (Value.int .i64 1))), none⟩,
    ⟨(some 8), .op (.mv (.tmp 20)), none⟩]) (.kill [19, 20])))) .nv)
def lo_spec_l03Called_1 : AC := (.loop lb_spec_l03Called_1)
def ac_spec_l03Called : AC := (.seq (.post (.reg [⟨(some 4), .op (.box true (.tmp 1)), none⟩,
    ⟨(some 6), .op (.alloc (Value.agg #[Value.int .i64 0, Value.int .i64 0, Value.int .i64 0, Value.int .i64 0, Value.int .i64 0, Value.int .i64 0])), none⟩]) (.kill [1]))
  (.seq (.post (.reg [⟨(some 11), .op (.lits true 1 0 (Value.int .i64 0) []), none⟩,
    ⟨(some 7), .op (.mv (.tmp 11)), none⟩]) (.kill [11]))
  (.seq (.seq (.reg [⟨(some 8), .op (.mv (.const (Value.int .i64 0))), none⟩])
  (.post (.block 0 (.ghost (.ow 7 none 1) (.ghost .nv lo_spec_l03Called_1))) .nv))
  (.ghost (.kill [2, 8]) (.seq (.post (.reg [⟨(some 58), .op (.mv (.tmp 0)), none⟩,
    ⟨(some 59), .op (.faddr (.tmp 4) 5), none⟩,
    ⟨(some 60), .op (.load 1 false (.tmp 59)), none⟩,
    ⟨(some 61), .op (.mv (.tmp 7)), none⟩,
    ⟨(some 62), .call (.func i_spec_l03Image) [(.tmp 60), (.tmp 61)], none⟩,
    ⟨(some 63), .call (.func i_spec_l03Begin) [(.tmp 58), (.tmp 62)], none⟩,
    ⟨none, .op (.store 6 (.tmp 6) (.tmp 63)), none⟩]) (.kill [0, 4, 7, 58, 59, 60, 61, 62, 63]))
  .ret)))))
theorem cf_spec_l03Called : chkFn Tryz.prog i_spec_l03Called ac_spec_l03Called [.cell 6 6 true] 64 = true := by decide +kernel
def fa_spec_l03Called : FnA := ⟨ac_spec_l03Called, [.cell 6 6 true], 64, false, true, [], .any, none⟩

/-- The checked code of spec l03Bottom. -/
def lb_spec_l03Bottom_0 : AC := (.post (.seq (.seq (.post (.reg [⟨(some 10), .op (.mv (.tmp 8)), none⟩,
    ⟨(some 11), .op (.mv (.tmp 0)), none⟩,
    ⟨(some 12), .op (.nilc (.tmp 11)), none⟩,
    ⟨(some 13), .op (.faddr (.tmp 12) 2), none⟩,
    ⟨(some 14), .op (.load 1 false (.tmp 13)), none⟩,
    ⟨(some 15), .op (.len false (.tmp 14)), none⟩,
    ⟨(some 16), .op (.bin .lss (.tmp 10) (.tmp 15)), none⟩]) (.kill [10, 11, 12, 13, 14, 15]))
  (.cond (.tmp 16) (.ghost (.kill [16]) .skip)
  (.ghost (.kill [2, 8, 16]) (.exit 0))))
  (.seq (.block 1 (.post (.post (.draw [⟨0, ⟨(some 19), .op (.mv (.tmp 7)), none⟩, []⟩,
    ⟨1, ⟨(some 20), .op (.mv (.tmp 0)), none⟩, []⟩,
    ⟨2, ⟨(some 21), .op (.nilc (.tmp 20)), none⟩, []⟩,
    ⟨3, ⟨(some 22), .op (.faddr (.tmp 21) 4), none⟩, []⟩,
    ⟨4, ⟨(some 23), .op (.load 1 false (.tmp 22)), none⟩, []⟩,
    ⟨5, ⟨(some 24), .op (.mv (.tmp 8)), none⟩, []⟩,
    ⟨6, ⟨(some 25), .op (.iaddrS (.tmp 23) (.tmp 24) 1), none⟩, []⟩,
    ⟨7, ⟨(some 26), .op (.load 1 false (.tmp 25)), none⟩, []⟩,
    ⟨8, ⟨(some 27), .op (.mv (.tmp 2)), none⟩, []⟩,
    ⟨9, ⟨(some 28), .op (.iaddrS (.tmp 26) (.tmp 27) 1), none⟩, []⟩,
    ⟨10, ⟨(some 29), .op (.load 1 false (.tmp 28)), none⟩, []⟩,
    ⟨11, ⟨(some 30), .op (.mv (.tmp 0)), none⟩, []⟩,
    ⟨12, ⟨(some 31), .op (.nilc (.tmp 30)), none⟩, []⟩,
    ⟨13, ⟨(some 32), .op (.faddr (.tmp 31) 0), none⟩, []⟩,
    ⟨14, ⟨(some 33), .op (.load 1 false (.tmp 32)), none⟩, []⟩,
    ⟨15, ⟨(some 34), .op (.iaddrS (.tmp 29) (.tmp 33) 1), none⟩, []⟩,
    ⟨16, ⟨(some 35), .op (.load 1 false (.tmp 34)), none⟩, []⟩,
    ⟨17, ⟨(some 36), .call (.func i_spec_l03Bits) [(.tmp 35)], none⟩, []⟩,
    ⟨18, ⟨(some 37), .op (.lits true 1 1 (Value.int .i64 0) [(0, (.tmp 36))]), none⟩, []⟩,
    ⟨19, ⟨(some 38), .op (.append (.tmp 19) (.tmp 37) 1 8), none⟩, []⟩,
    ⟨20, ⟨(some 7), .op (.mv (.tmp 38)), none⟩, []⟩]
    [0, 0, 2, 6, 14, 0, 62, 126, 0, 510, 1022, 0, 2048, 6144, 14336, 32766, 65534, 131070, 262142, 524287, 1048575]) (.kill [19, 20, 21, 22, 23, 24, 25, 26, 27, 28, 29, 30, 31, 32, 33, 34, 35, 36, 37, 38])) .nv))
  (.post (.reg [⟨(some 17), .op (.mv (.tmp 8)), none⟩,
    ⟨(some 18), .op (.bin .add (.tmp 17) (.const (Value.int .i64 1))), none⟩,
    ⟨(some 8), .op (.mv (.tmp 18)), none⟩]) (.kill [17, 18])))) .nv)
def lo_spec_l03Bottom_0 : AC := (.loop lb_spec_l03Bottom_0)
def ac_spec_l03Bottom : AC := (.seq (.post (.reg [⟨(some 4), .op (.box true (.tmp 1)), none⟩,
    ⟨(some 6), .op (.alloc (Value.agg #[Value.int .i64 0, Value.int .i64 0, Value.int .i64 0, Value.int .i64 0, Value.int .i64 0, Value.int .i64 0])), none⟩]) (.kill [1]))
  (.seq (.post (.reg [⟨(some 9), .op (.lits true 1 0 (Value.int .i64 0) []), none⟩,
    ⟨(some 7), .op (.mv (.tmp 9)), none⟩]) (.kill [9]))
  (.seq (.seq (.reg [⟨(some 8), .op (.mv (.const (Value.int .i64 0))), none⟩])
  (.post (.block 0 (.ghost (.ow 7 none 1) (.ghost .nv lo_spec_l03Bottom_0))) .nv))
  (.ghost (.kill [2, 8]) (.seq (.post (.reg [⟨(some 39), .op (.mv (.tmp 0)), none⟩,
    ⟨(some 40), .op (.faddr (.tmp 4) 5), none⟩,
    ⟨(some 41), .op (.load 1 false (.tmp 40)), none⟩,
    ⟨(some 42), .op (.mv (.tmp 7)), none⟩,
    ⟨(some 43), .call (.func i_spec_l03Image) [(.tmp 41), (.tmp 42)], none⟩,
    ⟨(some 44), .call (.func i_spec_l03Begin) [(.tmp 39), (.tmp 43)], none⟩,
    ⟨none, .op (.store 6 (.tmp 6) (.tmp 44)), none⟩]) (.kill [0, 4, 7, 39, 40, 41, 42, 43, 44]))
  .ret)))))
theorem cf_spec_l03Bottom : chkFn Tryz.prog i_spec_l03Bottom ac_spec_l03Bottom [.cell 6 6 true] 45 = true := by decide +kernel
def fa_spec_l03Bottom : FnA := ⟨ac_spec_l03Bottom, [.cell 6 6 true], 45, false, true, [], .any, none⟩

/-- The checked code of spec l03Inner. -/
def lb_spec_l03Inner_0 : AC := (.post (.seq (.seq (.post (.reg [⟨(some 10), .op (.mv (.tmp 8)), none⟩,
    ⟨(some 11), .op (.mv (.tmp 0)), none⟩,
    ⟨(some 12), .op (.nilc (.tmp 11)), none⟩,
    ⟨(some 13), .op (.faddr (.tmp 12) 2), none⟩,
    ⟨(some 14), .op (.load 1 false (.tmp 13)), none⟩,
    ⟨(some 15), .op (.len false (.tmp 14)), none⟩,
    ⟨(some 16), .op (.bin .lss (.tmp 10) (.tmp 15)), none⟩]) (.kill [10, 11, 12, 13, 14, 15]))
  (.cond (.tmp 16) (.ghost (.kill [16]) .skip)
  (.ghost (.kill [0, 2, 8, 16]) (.exit 0))))
  (.seq (.block 1 (.post (.post (.reg [⟨(some 19), .op (.mv (.tmp 7)), none⟩,
    ⟨(some 20), .op (.mv (.tmp 0)), none⟩,
    ⟨(some 21), .op (.nilc (.tmp 20)), none⟩,
    ⟨(some 22), .op (.faddr (.tmp 21) 5), none⟩,
    ⟨(some 23), .op (.load 1 false (.tmp 22)), none⟩,
    ⟨(some 24), .op (.mv (.tmp 8)), none⟩,
    ⟨(some 25), .op (.iaddrS (.tmp 23) (.tmp 24) 1), none⟩,
    ⟨(some 26), .op (.load 1 false (.tmp 25)), none⟩,
    ⟨(some 27), .op (.mv (.tmp 2)), none⟩,
    ⟨(some 28), .op (.iaddrS (.tmp 26) (.tmp 27) 1), none⟩,
    ⟨(some 29), .op (.load 1 false (.tmp 28)), none⟩,
    ⟨(some 30), .call (.func i_spec_l03Bits) [(.tmp 29)], none⟩,
    ⟨(some 31), .op (.lits true 1 1 (Value.int .i64 0) [(0, (.tmp 30))]), none⟩,
    ⟨(some 32), .op (.append (.tmp 19) (.tmp 31) 1 8), none⟩,
    ⟨(some 7), .op (.mv (.tmp 32)), none⟩]) (.kill [19, 20, 21, 22, 23, 24, 25, 26, 27, 28, 29, 30, 31, 32])) .nv))
  (.post (.reg [⟨(some 17), .op (.mv (.tmp 8)), none⟩,
    ⟨(some 18), .op (.bin .add (.tmp 17) (.const (Value.int .i64 1))), none⟩,
    ⟨(some 8), .op (.mv (.tmp 18)), none⟩]) (.kill [17, 18])))) .nv)
def lo_spec_l03Inner_0 : AC := (.loop lb_spec_l03Inner_0)
def ac_spec_l03Inner : AC := (.seq (.post (.reg [⟨(some 4), .op (.box true (.tmp 1)), none⟩,
    ⟨(some 6), .op (.alloc (Value.agg #[Value.int .i64 0, Value.int .i64 0, Value.int .i64 0, Value.int .i64 0, Value.int .i64 0, Value.int .i64 0])), none⟩]) (.kill [1]))
  (.seq (.post (.reg [⟨(some 9), .op (.lits true 1 0 (Value.int .i64 0) []), none⟩,
    ⟨(some 7), .op (.mv (.tmp 9)), none⟩]) (.kill [9]))
  (.seq (.seq (.reg [⟨(some 8), .op (.mv (.const (Value.int .i64 0))), none⟩])
  (.post (.block 0 (.ghost (.ow 7 none 1) (.ghost .nv lo_spec_l03Inner_0))) .nv))
  (.ghost (.kill [0, 2, 8]) (.seq (.post (.reg [⟨(some 33), .op (.load 6 true (.tmp 4)), none⟩,
    ⟨(some 34), .op (.mv (.tmp 7)), none⟩,
    ⟨(some 35), .call (.func i_spec_l03Moved) [(.tmp 33), (.tmp 34)], none⟩,
    ⟨none, .op (.store 6 (.tmp 6) (.tmp 35)), none⟩]) (.kill [4, 7, 33, 34, 35]))
  .ret)))))
theorem cf_spec_l03Inner : chkFn Tryz.prog i_spec_l03Inner ac_spec_l03Inner [.cell 6 6 true] 36 = true := by decide +kernel
def fa_spec_l03Inner : FnA := ⟨ac_spec_l03Inner, [.cell 6 6 true], 36, false, true, [], .any, none⟩

/-- The checked code of spec l03Run. -/
def lb_spec_l03Run_0 : AC := (.post (.seq (.seq (.post (.reg [⟨(some 20), .op (.mv (.tmp 8)), none⟩,
    ⟨(some 21), .op (.mv (.tmp 1)), none⟩,
    ⟨(some 22), .op (.len true (.tmp 21)), none⟩,
    ⟨(some 23), .op (.bin .lss (.tmp 20) (.tmp 22)), none⟩]) (.kill [20, 21, 22]))
  (.cond (.tmp 23) (.ghost (.kill [23]) .skip)
  (.ghost (.kill [0, 1, 6, 7, 8, 23]) (.exit 0))))
  (.seq (.block 1 (.seq (.post (.reg [⟨(some 26), .op (.mv (.tmp 1)), none⟩,
    ⟨(some 27), .op (.mv (.tmp 8)), none⟩,
    ⟨(some 28), .op (.idxStr (.tmp 26) (.tmp 27)), none⟩,
    ⟨(some 29), .call (.func i_spec_l01Symbol) [(.tmp 28)], none⟩,
    ⟨(some 9), .op (.mv (.tmp 29)), none⟩]) (.kill [26, 27, 28, 29]))
  (.seq (.post (.reg [⟨(some 30), .op (.mv (.tmp 6)), none⟩,
    ⟨(some 31), .op (.len false (.tmp 30)), none⟩,
    ⟨(some 32), .op (.bin .sub (.tmp 31) (.const (Value.int .i64 1))), none⟩,
    ⟨(some 10), .op (.mv (.tmp 32)), none⟩]) (.kill [30, 31, 32]))
  (.block 2 (.seq (.post (.reg [⟨(some 39), .op (.mv (.tmp 9)), none⟩,
    ⟨(some 40), .op (.bin .lss (.tmp 39) (.const (Value.int .i64 2))), none⟩,
    ⟨(some 38), .op (.mv (.tmp 40)), none⟩]) (.kill [39, 40]))
  (.cond (.tmp 38) (.ghost (.kill [10, 38]) (.seq (.post (.post (.reg [⟨(some 41), .op (.mv (.tmp 6)), none⟩,
    ⟨(some 42), .op (.load 6 true (.tmp 5)), none⟩,
    ⟨(some 43), .op (.lits true 6 1 (Value.agg #[Value.int .i64 0, Value.int .i64 0, Value.int .i64 0, Value.int .i64 0, Value.int .i64 0, Value.int .i64 0]) [(0, (.tmp 42))]), none⟩,
    ⟨(some 44), .op (.append (.tmp 41) (.tmp 43) 6 48), none⟩,
    ⟨(some 6), .op (.mv (.tmp 44)), none⟩]) (.kill [41, 42, 43, 44])) .nv)
  (.seq (.post (.post (.reg [⟨(some 45), .op (.mv (.tmp 7)), none⟩,
    ⟨(some 46), .op (.mv (.tmp 9)), none⟩,
    ⟨(some 47), .op (.lits true 1 1 (Value.int .i64 0) [(0, (.tmp 46))]), none⟩,
    ⟨(some 48), .op (.append (.tmp 45) (.tmp 47) 1 8), none⟩,
    ⟨(some 7), .op (.mv (.tmp 48)), none⟩]) (.kill [45, 46, 47, 48])) .nv)
  (.post (.reg [⟨(some 49), .op (.mv (.tmp 0)), none⟩,
    ⟨(some 50), .op (.load 6 true (.tmp 5)), none⟩,
    ⟨(some 51), .op (.mv (.tmp 9)), none⟩,
    ⟨(some 52), .call (.func i_spec_l03Called) [(.tmp 49), (.tmp 50), (.tmp 51)], none⟩,
    ⟨none, .op (.store 6 (.tmp 5) (.tmp 52)), none⟩]) (.kill [9, 49, 50, 51, 52])))))
  (.ghost (.kill [38]) (.seq (.post (.reg [⟨(some 54), .op (.mv (.tmp 9)), none⟩,
    ⟨(some 55), .op (.bin .lss (.tmp 54) (.const (Value.int .i64 4))), none⟩,
    ⟨(some 56), .op (.mv (.tmp 55)), none⟩,
    ⟨(some 57), .op (.mv (.tmp 10)), some (56, true)⟩,
    ⟨(some 58), .op (.bin .lss (.tmp 57) (.const (Value.int .i64 0))), some (56, true)⟩,
    ⟨(some 59), .op (.pick (.tmp 56) (.tmp 58) (.const (Value.bool false))), none⟩,
    ⟨(some 53), .op (.mv (.tmp 59)), none⟩]) (.kill [54, 55, 56, 57, 58, 59]))
  (.cond (.tmp 53) (.ghost (.kill [10, 53]) (.post (.reg [⟨(some 60), .op (.mv (.tmp 0)), none⟩,
    ⟨(some 61), .op (.load 6 true (.tmp 5)), none⟩,
    ⟨(some 62), .op (.mv (.tmp 9)), none⟩,
    ⟨(some 63), .op (.bin .sub (.tmp 62) (.const (Value.int .i64 2))), none⟩,
    ⟨(some 64), .call (.func i_spec_l03Bottom) [(.tmp 60), (.tmp 61), (.tmp 63)], none⟩,
    ⟨none, .op (.store 6 (.tmp 5) (.tmp 64)), none⟩]) (.kill [9, 60, 61, 62, 63, 64])))
  (.ghost (.kill [53]) (.seq (.post (.reg [⟨(some 66), .op (.mv (.tmp 9)), none⟩,
    ⟨(some 67), .op (.bin .lss (.tmp 66) (.const (Value.int .i64 4))), none⟩,
    ⟨(some 65), .op (.mv (.tmp 67)), none⟩]) (.kill [66, 67]))
  (.cond (.tmp 65) (.ghost (.kill [65]) (.seq (.post (.draw [⟨0, ⟨(some 68), .op (.mv (.tmp 0)), none⟩, []⟩,
    ⟨1, ⟨(some 69), .op (.load 6 true (.tmp 5)), none⟩, []⟩,
    ⟨2, ⟨(some 70), .op (.mv (.tmp 6)), none⟩, []⟩,
    ⟨3, ⟨(some 71), .op (.mv (.tmp 10)), none⟩, []⟩,
    ⟨4, ⟨(some 72), .op (.iaddrS (.tmp 70) (.tmp 71) 6), none⟩, []⟩,
    ⟨5, ⟨(some 73), .op (.load 6 true (.tmp 72)), none⟩, []⟩,
    ⟨6, ⟨(some 74), .op (.mv (.tmp 7)), none⟩, []⟩,
    ⟨7, ⟨(some 75), .op (.mv (.tmp 10)), none⟩, []⟩,
    ⟨8, ⟨(some 76), .op (.iaddrS (.tmp 74) (.tmp 75) 1), none⟩, []⟩,
    ⟨9, ⟨(some 77), .op (.load 1 false (.tmp 76)), none⟩, []⟩,
    ⟨10, ⟨(some 78), .op (.mv (.tmp 9)), none⟩, []⟩,
    ⟨11, ⟨(some 79), .op (.bin .sub (.tmp 78) (.const (Value.int .i64 2))), none⟩, []⟩,
    ⟨12, ⟨(some 80), .call (.func i_spec_l03Back) [(.tmp 68), (.tmp 69), (.tmp 73), (.tmp 77), (.tmp 79)], none⟩, []⟩,
    ⟨13, ⟨none, .op (.store 6 (.tmp 5) (.tmp 80)), none⟩, []⟩]
    [0, 0, 0, 0, 12, 28, 0, 0, 192, 448, 0, 1024, 4095, 8191]) (.kill [9, 68, 69, 70, 71, 72, 73, 74, 75, 76, 77, 78, 79, 80]))
  (.seq (.post (.post (.reg [⟨(some 81), .op (.mv (.tmp 6)), none⟩,
    ⟨(some 82), .op (.mv (.tmp 10)), none⟩,
    ⟨(some 83), .op (.slcS (.tmp 81) none (some (.tmp 82)) none 6), none⟩,
    ⟨(some 6), .op (.mv (.tmp 83)), none⟩]) (.kill [81, 82, 83])) .nv)
  (.post (.post (.reg [⟨(some 84), .op (.mv (.tmp 7)), none⟩,
    ⟨(some 85), .op (.mv (.tmp 10)), none⟩,
    ⟨(some 86), .op (.slcS (.tmp 84) none (some (.tmp 85)) none 1), none⟩,
    ⟨(some 7), .op (.mv (.tmp 86)), none⟩]) (.kill [10, 84, 85, 86])) .nv))))
  (.ghost (.kill [10, 65]) (.post (.reg [⟨(some 33), .op (.mv (.tmp 0)), none⟩,
    ⟨(some 34), .op (.load 6 true (.tmp 5)), none⟩,
    ⟨(some 35), .op (.mv (.tmp 9)), none⟩,
    ⟨(some 36), .op (.bin .sub (.tmp 35) (.const (Value.int .i64 4))), none⟩,
    ⟨(some 37), .call (.func i_spec_l03Inner) [(.tmp 33), (.tmp 34), (.tmp 36)], none⟩,
    ⟨none, .op (.store 6 (.tmp 5) (.tmp 37)), none⟩]) (.kill [9, 33, 34, 35, 36, 37])))))))))))))))
  (.post (.reg [⟨(some 24), .op (.mv (.tmp 8)), none⟩,
    ⟨(some 25), .op (.bin .add (.tmp 24) (.const (Value.int .i64 1))), none⟩,
    ⟨(some 8), .op (.mv (.tmp 25)), none⟩]) (.kill [24, 25])))) .nv)
def lo_spec_l03Run_0 : AC := (.loop lb_spec_l03Run_0)
def ac_spec_l03Run : AC := (.seq (.reg [⟨(some 4), .op (.alloc (Value.agg #[Value.int .i64 0, Value.int .i64 0, Value.int .i64 0, Value.int .i64 0, Value.int .i64 0, Value.int .i64 0])), none⟩])
  (.seq (.post (.reg [⟨(some 11), .op (.mv (.tmp 0)), none⟩,
    ⟨(some 12), .op (.mv (.tmp 0)), none⟩,
    ⟨(some 13), .op (.nilc (.tmp 12)), none⟩,
    ⟨(some 14), .op (.faddr (.tmp 13) 1), none⟩,
    ⟨(some 15), .op (.load 1 false (.tmp 14)), none⟩,
    ⟨(some 16), .call (.func i_spec_l03Bits) [(.tmp 15)], none⟩,
    ⟨(some 17), .call (.func i_spec_l03Begin) [(.tmp 11), (.tmp 16)], none⟩,
    ⟨(some 5), .op (.alloc (Value.agg #[Value.int .i64 0, Value.int .i64 0, Value.int .i64 0, Value.int .i64 0, Value.int .i64 0, Value.int .i64 0])), none⟩,
    ⟨none, .op (.store 6 (.tmp 5) (.tmp 17)), none⟩]) (.kill [11, 12, 13, 14, 15, 16, 17]))
  (.seq (.post (.reg [⟨(some 18), .op (.lits true 6 0 (Value.agg #[Value.int .i64 0, Value.int .i64 0, Value.int .i64 0, Value.int .i64 0, Value.int .i64 0, Value.int .i64 0]) []), none⟩,
    ⟨(some 6), .op (.mv (.tmp 18)), none⟩]) (.kill [18]))
  (.seq (.post (.reg [⟨(some 19), .op (.lits true 1 0 (Value.int .i64 0) []), none⟩,
    ⟨(some 7), .op (.mv (.tmp 19)), none⟩]) (.kill [19]))
  (.seq (.seq (.reg [⟨(some 8), .op (.mv (.const (Value.int .i64 0))), none⟩])
  (.post (.block 0 (.ghost (.ow 6 none 6) (.ghost (.ow 7 none 1) (.ghost .nv lo_spec_l03Run_0)))) .nv))
  (.ghost (.kill [0, 1, 6, 7, 8]) (.seq (.post (.reg [⟨(some 87), .op (.load 6 true (.tmp 5)), none⟩,
    ⟨none, .op (.store 6 (.tmp 4) (.tmp 87)), none⟩]) (.kill [5, 87]))
  .ret)))))))
theorem cf_spec_l03Run : chkFn Tryz.prog i_spec_l03Run ac_spec_l03Run [.cell 4 6 true] 88 = true := by decide +kernel
def fa_spec_l03Run : FnA := ⟨ac_spec_l03Run, [.cell 4 6 true], 88, false, true, [], .any, none⟩

/-- The checked code of spec PairsOf. -/
def lb_spec_PairsOf_0 : AC := (.seq (.seq (.post (.reg [⟨(some 23), .op (.mv (.tmp 9)), none⟩,
    ⟨(some 24), .op (.faddr (.tmp 2) 2), none⟩,
    ⟨(some 25), .op (.load 1 false (.tmp 24)), none⟩,
    ⟨(some 26), .op (.len false (.tmp 25)), none⟩,
    ⟨(some 27), .op (.bin .lss (.tmp 23) (.tmp 26)), none⟩]) (.kill [23, 24, 25, 26]))
  (.cond (.tmp 27) (.ghost (.kill [27]) .skip)
  (.ghost (.kill [2, 7, 9, 27]) (.exit 0))))
  (.seq (.block 1 (.post (.reg [⟨(some 30), .op (.mv (.tmp 8)), none⟩,
    ⟨(some 31), .op (.mv (.tmp 9)), none⟩,
    ⟨(some 32), .op (.faddr (.tmp 7) 0), none⟩,
    ⟨(some 33), .op (.iaddrA (.tmp 32) (.tmp 31) 5 1), none⟩,
    ⟨(some 34), .op (.load 1 false (.tmp 33)), none⟩,
    ⟨(some 35), .call (.func i_spec_l03List) [(.tmp 34)], none⟩,
    ⟨(some 36), .op (.lits true 1 1 (Value.slice none 0 0) [(0, (.tmp 35))]), none⟩,
    ⟨(some 37), .op (.append (.tmp 30) (.tmp 36) 1 24), none⟩,
    ⟨(some 8), .op (.mv (.tmp 37)), none⟩]) (.kill [30, 31, 32, 33, 34, 35, 36, 37])))
  (.post (.reg [⟨(some 28), .op (.mv (.tmp 9)), none⟩,
    ⟨(some 29), .op (.bin .add (.tmp 28) (.const (Value.int .i64 1))), none⟩,
    ⟨(some 9), .op (.mv (.tmp 29)), none⟩]) (.kill [28, 29]))))
def lo_spec_PairsOf_0 : AC := (.loop lb_spec_PairsOf_0)
def ac_spec_PairsOf : AC := (.seq (.post (.reg [⟨(some 2), .op (.box true (.tmp 0)), none⟩,
    ⟨(some 4), .op (.mv (.const (Value.slice none 0 0))), none⟩,
    ⟨(some 5), .op (.mv (.const (Value.int .i64 0))), none⟩]) (.kill [0, 4, 5]))
  (.seq (.seq (.post (.reg [⟨(some 10), .op (.mv (.tmp 1)), none⟩,
    ⟨(some 11), .call (.func i_spec_l03Given) [(.tmp 2), (.tmp 10)], none⟩,
    ⟨(some 6), .op (.mv (.tmp 11)), none⟩]) (.kill [10, 11]))
  (.seq (.post (.reg [⟨(some 12), .op (.mv (.tmp 6)), none⟩,
    ⟨(some 13), .op (.bin .neq (.tmp 12) (.const (Value.int .i64 0))), none⟩]) (.kill [12]))
  (.cond (.tmp 13) (.ghost (.kill [1, 2, 13]) (.seq (.post (.reg [⟨(some 14), .op (.lits true 1 0 (Value.slice none 0 0) []), none⟩,
    ⟨(some 15), .op (.mv (.tmp 6)), none⟩,
    ⟨(some 4), .op (.mv (.tmp 14)), none⟩,
    ⟨(some 5), .op (.mv (.tmp 15)), none⟩]) (.kill [6, 14, 15]))
  .ret))
  (.ghost (.kill [6, 13]) .skip))))
  (.seq (.seq (.post (.reg [⟨(some 16), .op (.mv (.tmp 1)), none⟩,
    ⟨(some 17), .call (.func i_spec_l01Matched) [(.tmp 16)], none⟩,
    ⟨(some 18), .op (.un .not (.tmp 17)), none⟩]) (.kill [16, 17]))
  (.cond (.tmp 18) (.ghost (.kill [1, 2, 18]) (.seq (.post (.reg [⟨(some 19), .op (.lits true 1 0 (Value.slice none 0 0) []), none⟩,
    ⟨(some 4), .op (.mv (.tmp 19)), none⟩,
    ⟨(some 5), .op (.mv (.const (Value.int .i64 4))), none⟩]) (.kill [19]))
  .ret))
  (.ghost (.kill [18]) .skip)))
  (.seq (.post (.reg [⟨(some 20), .op (.mv (.tmp 1)), none⟩,
    ⟨(some 21), .call (.func i_spec_l03Run) [(.tmp 2), (.tmp 20)], none⟩,
    ⟨(some 7), .op (.alloc (Value.agg #[Value.int .i64 0, Value.int .i64 0, Value.int .i64 0, Value.int .i64 0, Value.int .i64 0, Value.int .i64 0])), none⟩,
    ⟨none, .op (.store 6 (.tmp 7) (.tmp 21)), none⟩]) (.kill [1, 20, 21]))
  (.seq (.post (.reg [⟨(some 22), .op (.lits true 1 0 (Value.slice none 0 0) []), none⟩,
    ⟨(some 8), .op (.mv (.tmp 22)), none⟩]) (.kill [22]))
  (.seq (.seq (.reg [⟨(some 9), .op (.mv (.const (Value.int .i64 0))), none⟩])
  (.block 0 (.ghost (.ow 8 none 1) lo_spec_PairsOf_0)))
  (.ghost (.kill [2, 7, 9]) (.seq (.post (.reg [⟨(some 38), .op (.mv (.tmp 8)), none⟩,
    ⟨(some 4), .op (.mv (.tmp 38)), none⟩,
    ⟨(some 5), .op (.mv (.const (Value.int .i64 0))), none⟩]) (.kill [8, 38]))
  .ret))))))))
theorem cf_spec_PairsOf : chkFn Tryz.prog i_spec_PairsOf ac_spec_PairsOf [.tmp 4, .tmp 5] 39 = true := by decide +kernel
def fa_spec_PairsOf : FnA := ⟨ac_spec_PairsOf, [.tmp 4, .tmp 5], 39, false, true, [(.agg [.any, (.lst 1 .any), (.lst 1 .any), (.lst 1 (.lst 1 (.lst 2 .any))), (.lst 1 (.lst 1 (.lst 1 (.lst 1 .any)))), (.lst 1 (.lst 1 (.lst 1 .any)))]), .any], .any, none⟩

/-- The checked code of laws toInt64S. -/
def lb_laws_toInt64S_0 : AC := (.seq (.seq (.post (.reg [⟨(some 8), .op (.mv (.tmp 4)), none⟩,
    ⟨(some 9), .op (.mv (.tmp 0)), none⟩,
    ⟨(some 10), .op (.len false (.tmp 9)), none⟩,
    ⟨(some 11), .op (.bin .lss (.tmp 8) (.tmp 10)), none⟩]) (.kill [8, 9, 10]))
  (.cond (.tmp 11) (.ghost (.kill [11]) .skip)
  (.ghost (.kill [0, 4, 11]) (.exit 0))))
  (.seq (.block 1 (.post (.reg [⟨(some 14), .op (.mv (.tmp 3)), none⟩,
    ⟨(some 15), .op (.mv (.tmp 4)), none⟩,
    ⟨(some 16), .op (.mv (.tmp 0)), none⟩,
    ⟨(some 17), .op (.mv (.tmp 4)), none⟩,
    ⟨(some 18), .op (.iaddrS (.tmp 16) (.tmp 17) 1), none⟩,
    ⟨(some 19), .op (.load 1 false (.tmp 18)), none⟩,
    ⟨(some 20), .op (.iaddrS (.tmp 14) (.tmp 15) 1), none⟩,
    ⟨none, .op (.store 1 (.tmp 20) (.tmp 19)), none⟩]) (.kill [14, 15, 16, 17, 18, 19, 20])))
  (.post (.reg [⟨(some 12), .op (.mv (.tmp 4)), none⟩,
    ⟨(some 13), .op (.bin .add (.tmp 12) (.const (Value.int .i64 1))), none⟩,
    ⟨(some 4), .op (.mv (.tmp 13)), none⟩]) (.kill [12, 13]))))
def lo_laws_toInt64S_0 : AC := (.loop lb_laws_toInt64S_0)
def ac_laws_toInt64S : AC := (.seq (.post (.reg [⟨(some 2), .op (.mv (.const (Value.slice none 0 0))), none⟩]) (.kill [2]))
  (.seq (.post (.reg [⟨(some 5), .op (.mv (.tmp 0)), none⟩,
    ⟨(some 6), .op (.len false (.tmp 5)), none⟩,
    ⟨(some 7), .op (.make (.tmp 6) (.tmp 6) 1 8 (Value.int .i64 0)), none⟩,
    ⟨(some 3), .op (.mv (.tmp 7)), none⟩]) (.kill [5, 6, 7]))
  (.seq (.seq (.reg [⟨(some 4), .op (.mv (.const (Value.int .i64 0))), none⟩])
  (.block 0 lo_laws_toInt64S_0))
  (.ghost (.kill [0, 4]) (.seq (.post (.reg [⟨(some 21), .op (.mv (.tmp 3)), none⟩,
    ⟨(some 2), .op (.mv (.tmp 21)), none⟩]) (.kill [3, 21]))
  .ret)))))
theorem cf_laws_toInt64S : chkFn Tryz.prog i_laws_toInt64S ac_laws_toInt64S [.tmp 2] 22 = true := by decide +kernel
def fa_laws_toInt64S : FnA := ⟨ac_laws_toInt64S, [.tmp 2], 22, false, false, [], .any, none⟩

/-- The checked code of laws toBoolS. -/
def lb_laws_toBoolS_0 : AC := (.seq (.seq (.post (.reg [⟨(some 8), .op (.mv (.tmp 4)), none⟩,
    ⟨(some 9), .op (.mv (.tmp 0)), none⟩,
    ⟨(some 10), .op (.len false (.tmp 9)), none⟩,
    ⟨(some 11), .op (.bin .lss (.tmp 8) (.tmp 10)), none⟩]) (.kill [8, 9, 10]))
  (.cond (.tmp 11) (.ghost (.kill [11]) .skip)
  (.ghost (.kill [0, 4, 11]) (.exit 0))))
  (.seq (.block 1 (.post (.reg [⟨(some 14), .op (.mv (.tmp 3)), none⟩,
    ⟨(some 15), .op (.mv (.tmp 4)), none⟩,
    ⟨(some 16), .op (.mv (.tmp 0)), none⟩,
    ⟨(some 17), .op (.mv (.tmp 4)), none⟩,
    ⟨(some 18), .op (.iaddrS (.tmp 16) (.tmp 17) 1), none⟩,
    ⟨(some 19), .op (.load 1 false (.tmp 18)), none⟩,
    ⟨(some 20), .op (.iaddrS (.tmp 14) (.tmp 15) 1), none⟩,
    ⟨none, .op (.store 1 (.tmp 20) (.tmp 19)), none⟩]) (.kill [14, 15, 16, 17, 18, 19, 20])))
  (.post (.reg [⟨(some 12), .op (.mv (.tmp 4)), none⟩,
    ⟨(some 13), .op (.bin .add (.tmp 12) (.const (Value.int .i64 1))), none⟩,
    ⟨(some 4), .op (.mv (.tmp 13)), none⟩]) (.kill [12, 13]))))
def lo_laws_toBoolS_0 : AC := (.loop lb_laws_toBoolS_0)
def ac_laws_toBoolS : AC := (.seq (.post (.reg [⟨(some 2), .op (.mv (.const (Value.slice none 0 0))), none⟩]) (.kill [2]))
  (.seq (.post (.reg [⟨(some 5), .op (.mv (.tmp 0)), none⟩,
    ⟨(some 6), .op (.len false (.tmp 5)), none⟩,
    ⟨(some 7), .op (.make (.tmp 6) (.tmp 6) 1 1 (Value.bool false)), none⟩,
    ⟨(some 3), .op (.mv (.tmp 7)), none⟩]) (.kill [5, 6, 7]))
  (.seq (.seq (.reg [⟨(some 4), .op (.mv (.const (Value.int .i64 0))), none⟩])
  (.block 0 lo_laws_toBoolS_0))
  (.ghost (.kill [0, 4]) (.seq (.post (.reg [⟨(some 21), .op (.mv (.tmp 3)), none⟩,
    ⟨(some 2), .op (.mv (.tmp 21)), none⟩]) (.kill [3, 21]))
  .ret)))))
theorem cf_laws_toBoolS : chkFn Tryz.prog i_laws_toBoolS ac_laws_toBoolS [.tmp 2] 22 = true := by decide +kernel
def fa_laws_toBoolS : FnA := ⟨ac_laws_toBoolS, [.tmp 2], 22, false, false, [], .any, none⟩

/-- The checked code of laws toPush. -/
def ac_laws_toPush : AC := (.seq (.post (.reg [⟨(some 1), .op (.box true (.tmp 0)), none⟩,
    ⟨(some 2), .op (.alloc (Value.agg #[Value.int .i64 0, Value.int .i64 0])), none⟩]) (.kill [0]))
  (.seq (.reg [⟨(some 3), .op (.alloc (Value.agg #[Value.int .i64 0, Value.int .i64 0])), none⟩])
  (.seq (.post (.reg [⟨(some 4), .op (.faddr (.tmp 1) 0), none⟩,
    ⟨(some 5), .op (.load 1 false (.tmp 4)), none⟩,
    ⟨(some 6), .op (.faddr (.tmp 3) 0), none⟩,
    ⟨none, .op (.store 1 (.tmp 6) (.tmp 5)), none⟩]) (.kill [4, 5, 6]))
  (.seq (.post (.reg [⟨(some 7), .op (.faddr (.tmp 1) 1), none⟩,
    ⟨(some 8), .op (.load 1 false (.tmp 7)), none⟩,
    ⟨(some 9), .op (.faddr (.tmp 3) 1), none⟩,
    ⟨none, .op (.store 1 (.tmp 9) (.tmp 8)), none⟩]) (.kill [1, 7, 8, 9]))
  (.seq (.post (.reg [⟨(some 10), .op (.load 2 true (.tmp 3)), none⟩,
    ⟨none, .op (.store 2 (.tmp 2) (.tmp 10)), none⟩]) (.kill [3, 10]))
  .ret)))))
theorem cf_laws_toPush : chkFn Tryz.prog i_laws_toPush ac_laws_toPush [.cell 2 2 true] 11 = true := by decide +kernel
def fa_laws_toPush : FnA := ⟨ac_laws_toPush, [.cell 2 2 true], 11, false, false, [], .any, none⟩

/-- The checked code of laws toPushS. -/
def lb_laws_toPushS_0 : AC := (.seq (.seq (.post (.reg [⟨(some 8), .op (.mv (.tmp 4)), none⟩,
    ⟨(some 9), .op (.mv (.tmp 0)), none⟩,
    ⟨(some 10), .op (.len false (.tmp 9)), none⟩,
    ⟨(some 11), .op (.bin .lss (.tmp 8) (.tmp 10)), none⟩]) (.kill [8, 9, 10]))
  (.cond (.tmp 11) (.ghost (.kill [11]) .skip)
  (.ghost (.kill [0, 4, 11]) (.exit 0))))
  (.seq (.block 1 (.post (.reg [⟨(some 14), .op (.mv (.tmp 3)), none⟩,
    ⟨(some 15), .op (.mv (.tmp 4)), none⟩,
    ⟨(some 16), .op (.mv (.tmp 0)), none⟩,
    ⟨(some 17), .op (.mv (.tmp 4)), none⟩,
    ⟨(some 18), .op (.iaddrS (.tmp 16) (.tmp 17) 2), none⟩,
    ⟨(some 19), .op (.load 2 true (.tmp 18)), none⟩,
    ⟨(some 20), .call (.func i_laws_toPush) [(.tmp 19)], none⟩,
    ⟨(some 21), .op (.iaddrS (.tmp 14) (.tmp 15) 2), none⟩,
    ⟨none, .op (.store 2 (.tmp 21) (.tmp 20)), none⟩]) (.kill [14, 15, 16, 17, 18, 19, 20, 21])))
  (.post (.reg [⟨(some 12), .op (.mv (.tmp 4)), none⟩,
    ⟨(some 13), .op (.bin .add (.tmp 12) (.const (Value.int .i64 1))), none⟩,
    ⟨(some 4), .op (.mv (.tmp 13)), none⟩]) (.kill [12, 13]))))
def lo_laws_toPushS_0 : AC := (.loop lb_laws_toPushS_0)
def ac_laws_toPushS : AC := (.seq (.post (.reg [⟨(some 2), .op (.mv (.const (Value.slice none 0 0))), none⟩]) (.kill [2]))
  (.seq (.post (.reg [⟨(some 5), .op (.mv (.tmp 0)), none⟩,
    ⟨(some 6), .op (.len false (.tmp 5)), none⟩,
    ⟨(some 7), .op (.make (.tmp 6) (.tmp 6) 2 16 (Value.agg #[Value.int .i64 0, Value.int .i64 0])), none⟩,
    ⟨(some 3), .op (.mv (.tmp 7)), none⟩]) (.kill [5, 6, 7]))
  (.seq (.seq (.reg [⟨(some 4), .op (.mv (.const (Value.int .i64 0))), none⟩])
  (.block 0 lo_laws_toPushS_0))
  (.ghost (.kill [0, 4]) (.seq (.post (.reg [⟨(some 22), .op (.mv (.tmp 3)), none⟩,
    ⟨(some 2), .op (.mv (.tmp 22)), none⟩]) (.kill [3, 22]))
  .ret)))))
theorem cf_laws_toPushS : chkFn Tryz.prog i_laws_toPushS ac_laws_toPushS [.tmp 2] 23 = true := by decide +kernel
def fa_laws_toPushS : FnA := ⟨ac_laws_toPushS, [.tmp 2], 23, false, false, [], .any, none⟩

/-- The checked code of laws toPushSS. -/
def lb_laws_toPushSS_0 : AC := (.seq (.seq (.post (.reg [⟨(some 8), .op (.mv (.tmp 4)), none⟩,
    ⟨(some 9), .op (.mv (.tmp 0)), none⟩,
    ⟨(some 10), .op (.len false (.tmp 9)), none⟩,
    ⟨(some 11), .op (.bin .lss (.tmp 8) (.tmp 10)), none⟩]) (.kill [8, 9, 10]))
  (.cond (.tmp 11) (.ghost (.kill [11]) .skip)
  (.ghost (.kill [0, 4, 11]) (.exit 0))))
  (.seq (.block 1 (.post (.reg [⟨(some 14), .op (.mv (.tmp 3)), none⟩,
    ⟨(some 15), .op (.mv (.tmp 4)), none⟩,
    ⟨(some 16), .op (.mv (.tmp 0)), none⟩,
    ⟨(some 17), .op (.mv (.tmp 4)), none⟩,
    ⟨(some 18), .op (.iaddrS (.tmp 16) (.tmp 17) 1), none⟩,
    ⟨(some 19), .op (.load 1 false (.tmp 18)), none⟩,
    ⟨(some 20), .call (.func i_laws_toPushS) [(.tmp 19)], none⟩,
    ⟨(some 21), .op (.iaddrS (.tmp 14) (.tmp 15) 1), none⟩,
    ⟨none, .op (.store 1 (.tmp 21) (.tmp 20)), none⟩]) (.kill [14, 15, 16, 17, 18, 19, 20, 21])))
  (.post (.reg [⟨(some 12), .op (.mv (.tmp 4)), none⟩,
    ⟨(some 13), .op (.bin .add (.tmp 12) (.const (Value.int .i64 1))), none⟩,
    ⟨(some 4), .op (.mv (.tmp 13)), none⟩]) (.kill [12, 13]))))
def lo_laws_toPushSS_0 : AC := (.loop lb_laws_toPushSS_0)
def ac_laws_toPushSS : AC := (.seq (.post (.reg [⟨(some 2), .op (.mv (.const (Value.slice none 0 0))), none⟩]) (.kill [2]))
  (.seq (.post (.reg [⟨(some 5), .op (.mv (.tmp 0)), none⟩,
    ⟨(some 6), .op (.len false (.tmp 5)), none⟩,
    ⟨(some 7), .op (.make (.tmp 6) (.tmp 6) 1 24 (Value.slice none 0 0)), none⟩,
    ⟨(some 3), .op (.mv (.tmp 7)), none⟩]) (.kill [5, 6, 7]))
  (.seq (.seq (.reg [⟨(some 4), .op (.mv (.const (Value.int .i64 0))), none⟩])
  (.block 0 lo_laws_toPushSS_0))
  (.ghost (.kill [0, 4]) (.seq (.post (.reg [⟨(some 22), .op (.mv (.tmp 3)), none⟩,
    ⟨(some 2), .op (.mv (.tmp 22)), none⟩]) (.kill [3, 22]))
  .ret)))))
theorem cf_laws_toPushSS : chkFn Tryz.prog i_laws_toPushSS ac_laws_toPushSS [.tmp 2] 23 = true := by decide +kernel
def fa_laws_toPushSS : FnA := ⟨ac_laws_toPushSS, [.tmp 2], 23, false, false, [], .any, none⟩

/-- The checked code of laws toPushSSS. -/
def lb_laws_toPushSSS_0 : AC := (.seq (.seq (.post (.reg [⟨(some 8), .op (.mv (.tmp 4)), none⟩,
    ⟨(some 9), .op (.mv (.tmp 0)), none⟩,
    ⟨(some 10), .op (.len false (.tmp 9)), none⟩,
    ⟨(some 11), .op (.bin .lss (.tmp 8) (.tmp 10)), none⟩]) (.kill [8, 9, 10]))
  (.cond (.tmp 11) (.ghost (.kill [11]) .skip)
  (.ghost (.kill [0, 4, 11]) (.exit 0))))
  (.seq (.block 1 (.post (.reg [⟨(some 14), .op (.mv (.tmp 3)), none⟩,
    ⟨(some 15), .op (.mv (.tmp 4)), none⟩,
    ⟨(some 16), .op (.mv (.tmp 0)), none⟩,
    ⟨(some 17), .op (.mv (.tmp 4)), none⟩,
    ⟨(some 18), .op (.iaddrS (.tmp 16) (.tmp 17) 1), none⟩,
    ⟨(some 19), .op (.load 1 false (.tmp 18)), none⟩,
    ⟨(some 20), .call (.func i_laws_toPushSS) [(.tmp 19)], none⟩,
    ⟨(some 21), .op (.iaddrS (.tmp 14) (.tmp 15) 1), none⟩,
    ⟨none, .op (.store 1 (.tmp 21) (.tmp 20)), none⟩]) (.kill [14, 15, 16, 17, 18, 19, 20, 21])))
  (.post (.reg [⟨(some 12), .op (.mv (.tmp 4)), none⟩,
    ⟨(some 13), .op (.bin .add (.tmp 12) (.const (Value.int .i64 1))), none⟩,
    ⟨(some 4), .op (.mv (.tmp 13)), none⟩]) (.kill [12, 13]))))
def lo_laws_toPushSSS_0 : AC := (.loop lb_laws_toPushSSS_0)
def ac_laws_toPushSSS : AC := (.seq (.post (.reg [⟨(some 2), .op (.mv (.const (Value.slice none 0 0))), none⟩]) (.kill [2]))
  (.seq (.post (.reg [⟨(some 5), .op (.mv (.tmp 0)), none⟩,
    ⟨(some 6), .op (.len false (.tmp 5)), none⟩,
    ⟨(some 7), .op (.make (.tmp 6) (.tmp 6) 1 24 (Value.slice none 0 0)), none⟩,
    ⟨(some 3), .op (.mv (.tmp 7)), none⟩]) (.kill [5, 6, 7]))
  (.seq (.seq (.reg [⟨(some 4), .op (.mv (.const (Value.int .i64 0))), none⟩])
  (.block 0 lo_laws_toPushSSS_0))
  (.ghost (.kill [0, 4]) (.seq (.post (.reg [⟨(some 22), .op (.mv (.tmp 3)), none⟩,
    ⟨(some 2), .op (.mv (.tmp 22)), none⟩]) (.kill [3, 22]))
  .ret)))))
theorem cf_laws_toPushSSS : chkFn Tryz.prog i_laws_toPushSSS ac_laws_toPushSSS [.tmp 2] 23 = true := by decide +kernel
def fa_laws_toPushSSS : FnA := ⟨ac_laws_toPushSSS, [.tmp 2], 23, false, false, [], .any, none⟩

/-- The checked code of laws toInt64SS. -/
def lb_laws_toInt64SS_0 : AC := (.seq (.seq (.post (.reg [⟨(some 8), .op (.mv (.tmp 4)), none⟩,
    ⟨(some 9), .op (.mv (.tmp 0)), none⟩,
    ⟨(some 10), .op (.len false (.tmp 9)), none⟩,
    ⟨(some 11), .op (.bin .lss (.tmp 8) (.tmp 10)), none⟩]) (.kill [8, 9, 10]))
  (.cond (.tmp 11) (.ghost (.kill [11]) .skip)
  (.ghost (.kill [0, 4, 11]) (.exit 0))))
  (.seq (.block 1 (.post (.reg [⟨(some 14), .op (.mv (.tmp 3)), none⟩,
    ⟨(some 15), .op (.mv (.tmp 4)), none⟩,
    ⟨(some 16), .op (.mv (.tmp 0)), none⟩,
    ⟨(some 17), .op (.mv (.tmp 4)), none⟩,
    ⟨(some 18), .op (.iaddrS (.tmp 16) (.tmp 17) 1), none⟩,
    ⟨(some 19), .op (.load 1 false (.tmp 18)), none⟩,
    ⟨(some 20), .call (.func i_laws_toInt64S) [(.tmp 19)], none⟩,
    ⟨(some 21), .op (.iaddrS (.tmp 14) (.tmp 15) 1), none⟩,
    ⟨none, .op (.store 1 (.tmp 21) (.tmp 20)), none⟩]) (.kill [14, 15, 16, 17, 18, 19, 20, 21])))
  (.post (.reg [⟨(some 12), .op (.mv (.tmp 4)), none⟩,
    ⟨(some 13), .op (.bin .add (.tmp 12) (.const (Value.int .i64 1))), none⟩,
    ⟨(some 4), .op (.mv (.tmp 13)), none⟩]) (.kill [12, 13]))))
def lo_laws_toInt64SS_0 : AC := (.loop lb_laws_toInt64SS_0)
def ac_laws_toInt64SS : AC := (.seq (.post (.reg [⟨(some 2), .op (.mv (.const (Value.slice none 0 0))), none⟩]) (.kill [2]))
  (.seq (.post (.reg [⟨(some 5), .op (.mv (.tmp 0)), none⟩,
    ⟨(some 6), .op (.len false (.tmp 5)), none⟩,
    ⟨(some 7), .op (.make (.tmp 6) (.tmp 6) 1 24 (Value.slice none 0 0)), none⟩,
    ⟨(some 3), .op (.mv (.tmp 7)), none⟩]) (.kill [5, 6, 7]))
  (.seq (.seq (.reg [⟨(some 4), .op (.mv (.const (Value.int .i64 0))), none⟩])
  (.block 0 lo_laws_toInt64SS_0))
  (.ghost (.kill [0, 4]) (.seq (.post (.reg [⟨(some 22), .op (.mv (.tmp 3)), none⟩,
    ⟨(some 2), .op (.mv (.tmp 22)), none⟩]) (.kill [3, 22]))
  .ret)))))
theorem cf_laws_toInt64SS : chkFn Tryz.prog i_laws_toInt64SS ac_laws_toInt64SS [.tmp 2] 23 = true := by decide +kernel
def fa_laws_toInt64SS : FnA := ⟨ac_laws_toInt64SS, [.tmp 2], 23, false, false, [], .any, none⟩

/-- The checked code of laws toInt64SSS. -/
def lb_laws_toInt64SSS_0 : AC := (.seq (.seq (.post (.reg [⟨(some 8), .op (.mv (.tmp 4)), none⟩,
    ⟨(some 9), .op (.mv (.tmp 0)), none⟩,
    ⟨(some 10), .op (.len false (.tmp 9)), none⟩,
    ⟨(some 11), .op (.bin .lss (.tmp 8) (.tmp 10)), none⟩]) (.kill [8, 9, 10]))
  (.cond (.tmp 11) (.ghost (.kill [11]) .skip)
  (.ghost (.kill [0, 4, 11]) (.exit 0))))
  (.seq (.block 1 (.post (.reg [⟨(some 14), .op (.mv (.tmp 3)), none⟩,
    ⟨(some 15), .op (.mv (.tmp 4)), none⟩,
    ⟨(some 16), .op (.mv (.tmp 0)), none⟩,
    ⟨(some 17), .op (.mv (.tmp 4)), none⟩,
    ⟨(some 18), .op (.iaddrS (.tmp 16) (.tmp 17) 1), none⟩,
    ⟨(some 19), .op (.load 1 false (.tmp 18)), none⟩,
    ⟨(some 20), .call (.func i_laws_toInt64SS) [(.tmp 19)], none⟩,
    ⟨(some 21), .op (.iaddrS (.tmp 14) (.tmp 15) 1), none⟩,
    ⟨none, .op (.store 1 (.tmp 21) (.tmp 20)), none⟩]) (.kill [14, 15, 16, 17, 18, 19, 20, 21])))
  (.post (.reg [⟨(some 12), .op (.mv (.tmp 4)), none⟩,
    ⟨(some 13), .op (.bin .add (.tmp 12) (.const (Value.int .i64 1))), none⟩,
    ⟨(some 4), .op (.mv (.tmp 13)), none⟩]) (.kill [12, 13]))))
def lo_laws_toInt64SSS_0 : AC := (.loop lb_laws_toInt64SSS_0)
def ac_laws_toInt64SSS : AC := (.seq (.post (.reg [⟨(some 2), .op (.mv (.const (Value.slice none 0 0))), none⟩]) (.kill [2]))
  (.seq (.post (.reg [⟨(some 5), .op (.mv (.tmp 0)), none⟩,
    ⟨(some 6), .op (.len false (.tmp 5)), none⟩,
    ⟨(some 7), .op (.make (.tmp 6) (.tmp 6) 1 24 (Value.slice none 0 0)), none⟩,
    ⟨(some 3), .op (.mv (.tmp 7)), none⟩]) (.kill [5, 6, 7]))
  (.seq (.seq (.reg [⟨(some 4), .op (.mv (.const (Value.int .i64 0))), none⟩])
  (.block 0 lo_laws_toInt64SSS_0))
  (.ghost (.kill [0, 4]) (.seq (.post (.reg [⟨(some 22), .op (.mv (.tmp 3)), none⟩,
    ⟨(some 2), .op (.mv (.tmp 22)), none⟩]) (.kill [3, 22]))
  .ret)))))
theorem cf_laws_toInt64SSS : chkFn Tryz.prog i_laws_toInt64SSS ac_laws_toInt64SSS [.tmp 2] 23 = true := by decide +kernel
def fa_laws_toInt64SSS : FnA := ⟨ac_laws_toInt64SSS, [.tmp 2], 23, false, false, [], .any, none⟩

/-- The checked code of laws toInt64SSSS. -/
def lb_laws_toInt64SSSS_0 : AC := (.seq (.seq (.post (.reg [⟨(some 8), .op (.mv (.tmp 4)), none⟩,
    ⟨(some 9), .op (.mv (.tmp 0)), none⟩,
    ⟨(some 10), .op (.len false (.tmp 9)), none⟩,
    ⟨(some 11), .op (.bin .lss (.tmp 8) (.tmp 10)), none⟩]) (.kill [8, 9, 10]))
  (.cond (.tmp 11) (.ghost (.kill [11]) .skip)
  (.ghost (.kill [0, 4, 11]) (.exit 0))))
  (.seq (.block 1 (.post (.reg [⟨(some 14), .op (.mv (.tmp 3)), none⟩,
    ⟨(some 15), .op (.mv (.tmp 4)), none⟩,
    ⟨(some 16), .op (.mv (.tmp 0)), none⟩,
    ⟨(some 17), .op (.mv (.tmp 4)), none⟩,
    ⟨(some 18), .op (.iaddrS (.tmp 16) (.tmp 17) 1), none⟩,
    ⟨(some 19), .op (.load 1 false (.tmp 18)), none⟩,
    ⟨(some 20), .call (.func i_laws_toInt64SSS) [(.tmp 19)], none⟩,
    ⟨(some 21), .op (.iaddrS (.tmp 14) (.tmp 15) 1), none⟩,
    ⟨none, .op (.store 1 (.tmp 21) (.tmp 20)), none⟩]) (.kill [14, 15, 16, 17, 18, 19, 20, 21])))
  (.post (.reg [⟨(some 12), .op (.mv (.tmp 4)), none⟩,
    ⟨(some 13), .op (.bin .add (.tmp 12) (.const (Value.int .i64 1))), none⟩,
    ⟨(some 4), .op (.mv (.tmp 13)), none⟩]) (.kill [12, 13]))))
def lo_laws_toInt64SSSS_0 : AC := (.loop lb_laws_toInt64SSSS_0)
def ac_laws_toInt64SSSS : AC := (.seq (.post (.reg [⟨(some 2), .op (.mv (.const (Value.slice none 0 0))), none⟩]) (.kill [2]))
  (.seq (.post (.reg [⟨(some 5), .op (.mv (.tmp 0)), none⟩,
    ⟨(some 6), .op (.len false (.tmp 5)), none⟩,
    ⟨(some 7), .op (.make (.tmp 6) (.tmp 6) 1 24 (Value.slice none 0 0)), none⟩,
    ⟨(some 3), .op (.mv (.tmp 7)), none⟩]) (.kill [5, 6, 7]))
  (.seq (.seq (.reg [⟨(some 4), .op (.mv (.const (Value.int .i64 0))), none⟩])
  (.block 0 lo_laws_toInt64SSSS_0))
  (.ghost (.kill [0, 4]) (.seq (.post (.reg [⟨(some 22), .op (.mv (.tmp 3)), none⟩,
    ⟨(some 2), .op (.mv (.tmp 22)), none⟩]) (.kill [3, 22]))
  .ret)))))
theorem cf_laws_toInt64SSSS : chkFn Tryz.prog i_laws_toInt64SSSS ac_laws_toInt64SSSS [.tmp 2] 23 = true := by decide +kernel
def fa_laws_toInt64SSSS : FnA := ⟨ac_laws_toInt64SSSS, [.tmp 2], 23, false, false, [], .any, none⟩

/-- The checked code of laws toChoices. -/
def ac_laws_toChoices : AC := (.seq (.post (.reg [⟨(some 1), .op (.box true (.tmp 0)), none⟩,
    ⟨(some 2), .op (.alloc (Value.agg #[Value.int .i64 0, Value.slice none 0 0, Value.slice none 0 0, Value.slice none 0 0, Value.slice none 0 0, Value.slice none 0 0])), none⟩]) (.kill [0]))
  (.seq (.reg [⟨(some 3), .op (.alloc (Value.agg #[Value.int .i64 0, Value.slice none 0 0, Value.slice none 0 0, Value.slice none 0 0, Value.slice none 0 0, Value.slice none 0 0])), none⟩])
  (.seq (.post (.reg [⟨(some 4), .op (.faddr (.tmp 1) 0), none⟩,
    ⟨(some 5), .op (.load 1 false (.tmp 4)), none⟩,
    ⟨(some 6), .op (.faddr (.tmp 3) 0), none⟩,
    ⟨none, .op (.store 1 (.tmp 6) (.tmp 5)), none⟩]) (.kill [4, 5, 6]))
  (.seq (.post (.reg [⟨(some 7), .op (.faddr (.tmp 1) 1), none⟩,
    ⟨(some 8), .op (.load 1 false (.tmp 7)), none⟩,
    ⟨(some 9), .call (.func i_laws_toInt64S) [(.tmp 8)], none⟩,
    ⟨(some 10), .op (.faddr (.tmp 3) 1), none⟩,
    ⟨none, .op (.store 1 (.tmp 10) (.tmp 9)), none⟩]) (.kill [7, 8, 9, 10]))
  (.seq (.post (.reg [⟨(some 11), .op (.faddr (.tmp 1) 2), none⟩,
    ⟨(some 12), .op (.load 1 false (.tmp 11)), none⟩,
    ⟨(some 13), .call (.func i_laws_toBoolS) [(.tmp 12)], none⟩,
    ⟨(some 14), .op (.faddr (.tmp 3) 2), none⟩,
    ⟨none, .op (.store 1 (.tmp 14) (.tmp 13)), none⟩]) (.kill [11, 12, 13, 14]))
  (.seq (.post (.reg [⟨(some 15), .op (.faddr (.tmp 1) 3), none⟩,
    ⟨(some 16), .op (.load 1 false (.tmp 15)), none⟩,
    ⟨(some 17), .call (.func i_laws_toPushSSS) [(.tmp 16)], none⟩,
    ⟨(some 18), .op (.faddr (.tmp 3) 3), none⟩,
    ⟨none, .op (.store 1 (.tmp 18) (.tmp 17)), none⟩]) (.kill [15, 16, 17, 18]))
  (.seq (.post (.reg [⟨(some 19), .op (.faddr (.tmp 1) 4), none⟩,
    ⟨(some 20), .op (.load 1 false (.tmp 19)), none⟩,
    ⟨(some 21), .call (.func i_laws_toInt64SSSS) [(.tmp 20)], none⟩,
    ⟨(some 22), .op (.faddr (.tmp 3) 4), none⟩,
    ⟨none, .op (.store 1 (.tmp 22) (.tmp 21)), none⟩]) (.kill [19, 20, 21, 22]))
  (.seq (.post (.reg [⟨(some 23), .op (.faddr (.tmp 1) 5), none⟩,
    ⟨(some 24), .op (.load 1 false (.tmp 23)), none⟩,
    ⟨(some 25), .call (.func i_laws_toInt64SSS) [(.tmp 24)], none⟩,
    ⟨(some 26), .op (.faddr (.tmp 3) 5), none⟩,
    ⟨none, .op (.store 1 (.tmp 26) (.tmp 25)), none⟩]) (.kill [1, 23, 24, 25, 26]))
  (.seq (.post (.reg [⟨(some 27), .op (.load 6 true (.tmp 3)), none⟩,
    ⟨none, .op (.store 6 (.tmp 2) (.tmp 27)), none⟩]) (.kill [3, 27]))
  .ret)))))))))
theorem cf_laws_toChoices : chkFn Tryz.prog i_laws_toChoices ac_laws_toChoices [.cell 2 6 true] 28 = true := by decide +kernel
def fa_laws_toChoices : FnA := ⟨ac_laws_toChoices, [.cell 2 6 true], 28, false, false, [], .any, none⟩

/-- The checked code of impl within. -/
def ac_impl_within : AC := (.seq (.post (.reg [⟨(some 6), .op (.mv (.const (Value.bool false))), none⟩]) (.kill [6]))
  (.seq (.post (.reg [⟨(some 7), .op (.mv (.tmp 0)), none⟩,
    ⟨(some 8), .op (.mv (.tmp 1)), none⟩,
    ⟨(some 9), .op (.bin .geq (.tmp 7) (.tmp 8)), none⟩,
    ⟨(some 10), .op (.mv (.tmp 9)), none⟩,
    ⟨(some 11), .op (.mv (.tmp 0)), some (10, true)⟩,
    ⟨(some 12), .op (.mv (.tmp 2)), some (10, true)⟩,
    ⟨(some 13), .op (.bin .leq (.tmp 11) (.tmp 12)), some (10, true)⟩,
    ⟨(some 14), .op (.pick (.tmp 10) (.tmp 13) (.const (Value.bool false))), none⟩,
    ⟨(some 6), .op (.mv (.tmp 14)), none⟩]) (.kill [0, 1, 2, 7, 8, 9, 10, 11, 12, 13, 14]))
  .ret))
theorem cf_impl_within : chkFn Tryz.prog i_impl_within ac_impl_within [.tmp 6] 15 = true := by decide +kernel
def fa_impl_within : FnA := ⟨ac_impl_within, [.tmp 6], 15, false, true, [], .any, none⟩

/-- The checked code of impl size bool . -/
def ac_impl_size_bool : AC := (.seq (.post (.reg [⟨(some 2), .op (.mv (.const (Value.int .i64 0))), none⟩]) (.kill [2]))
  (.seq (.post (.reg [⟨(some 3), .op (.mv (.tmp 0)), none⟩,
    ⟨(some 4), .op (.len false (.tmp 3)), none⟩,
    ⟨(some 2), .op (.mv (.tmp 4)), none⟩]) (.kill [0, 3, 4]))
  .ret))
theorem cf_impl_size_bool : chkFn Tryz.prog i_impl_size_bool ac_impl_size_bool [.tmp 2] 5 = true := by decide +kernel
def fa_impl_size_bool : FnA := ⟨ac_impl_size_bool, [.tmp 2], 5, false, true, [], .any, none⟩

/-- The checked code of impl isRising. -/
def lb_impl_isRising_0 : AC := (.seq (.reg [⟨(some 10), .op (.bin .lss (.tmp 9) (.tmp 8)), none⟩])
  (.seq (.cond (.tmp 10) (.ghost (.kill [10]) .skip)
  (.ghost (.kill [0, 1, 7, 8, 9, 10]) (.exit 0)))
  (.seq (.block 1 (.seq (.post (.reg [⟨(some 11), .op (.mv (.tmp 9)), none⟩,
    ⟨(some 12), .op (.iaddrS (.tmp 7) (.tmp 9) 1), none⟩,
    ⟨(some 13), .op (.load 1 false (.tmp 12)), none⟩,
    ⟨(some 5), .op (.mv (.tmp 11)), none⟩,
    ⟨(some 6), .op (.mv (.tmp 13)), none⟩]) (.kill [11, 12, 13]))
  (.seq (.post (.reg [⟨(some 14), .op (.mv (.tmp 6)), none⟩,
    ⟨(some 15), .op (.mv (.tmp 1)), none⟩,
    ⟨(some 16), .op (.bin .sub (.tmp 15) (.const (Value.int .i64 1))), none⟩,
    ⟨(some 17), .call (.func i_impl_within) [(.tmp 14), (.const (Value.int .i64 0)), (.tmp 16)], none⟩,
    ⟨(some 18), .op (.un .not (.tmp 17)), none⟩,
    ⟨(some 19), .op (.mv (.tmp 18)), none⟩,
    ⟨(some 20), .op (.mv (.tmp 5)), some (19, false)⟩,
    ⟨(some 21), .op (.bin .gtr (.tmp 20) (.const (Value.int .i64 0))), some (19, false)⟩,
    ⟨(some 22), .op (.mv (.tmp 21)), some (19, false)⟩,
    ⟨(some 23), .op (.mv (.tmp 6)), some (22, true)⟩,
    ⟨(some 24), .op (.mv (.tmp 0)), some (22, true)⟩,
    ⟨(some 25), .op (.mv (.tmp 5)), some (22, true)⟩,
    ⟨(some 26), .op (.bin .sub (.tmp 25) (.const (Value.int .i64 1))), some (22, true)⟩,
    ⟨(some 27), .op (.iaddrS (.tmp 24) (.tmp 26) 1), some (22, true)⟩,
    ⟨(some 28), .op (.load 1 false (.tmp 27)), some (22, true)⟩,
    ⟨(some 29), .op (.bin .leq (.tmp 23) (.tmp 28)), some (22, true)⟩,
    ⟨(some 30), .op (.pick (.tmp 22) (.tmp 29) (.const (Value.bool false))), some (19, false)⟩,
    ⟨(some 31), .op (.pick (.tmp 19) (.const (Value.bool true)) (.tmp 30)), none⟩]) (.kill [5, 6, 14, 15, 16, 17, 18, 19, 20, 21, 22, 23, 24, 25, 26, 27, 28, 29, 30]))
  (.cond (.tmp 31) (.ghost (.kill [0, 1, 7, 8, 9, 31]) (.seq (.reg [⟨(some 4), .op (.mv (.const (Value.bool false))), none⟩])
  .ret))
  (.ghost (.kill [31]) .skip)))))
  (.post (.reg [⟨(some 32), .op (.bin .add (.tmp 9) (.const (Value.int .i64 1))), none⟩,
    ⟨(some 9), .op (.mv (.tmp 32)), none⟩]) (.kill [32])))))
def lo_impl_isRising_0 : AC := (.loop lb_impl_isRising_0)
def ac_impl_isRising : AC := (.seq (.post (.reg [⟨(some 4), .op (.mv (.const (Value.bool false))), none⟩]) (.kill [4]))
  (.seq (.seq (.reg [⟨(some 7), .op (.mv (.tmp 0)), none⟩,
    ⟨(some 8), .op (.len false (.tmp 7)), none⟩,
    ⟨(some 9), .op (.mv (.const (Value.int .i64 0))), none⟩])
  (.block 0 lo_impl_isRising_0))
  (.ghost (.kill [0, 1, 7, 8, 9]) (.seq (.reg [⟨(some 4), .op (.mv (.const (Value.bool true))), none⟩])
  .ret))))
theorem cf_impl_isRising : chkFn Tryz.prog i_impl_isRising ac_impl_isRising [.tmp 4] 33 = true := by decide +kernel
def fa_impl_isRising : FnA := ⟨ac_impl_isRising, [.tmp 4], 33, false, true, [], .any, none⟩

/-- The checked code of impl Push . -/
def ac_impl_size_L_L_impl_Push : AC := (.seq (.post (.reg [⟨(some 2), .op (.mv (.const (Value.int .i64 0))), none⟩]) (.kill [2]))
  (.seq (.post (.reg [⟨(some 3), .op (.mv (.tmp 0)), none⟩,
    ⟨(some 4), .op (.len false (.tmp 3)), none⟩,
    ⟨(some 2), .op (.mv (.tmp 4)), none⟩]) (.kill [0, 3, 4]))
  .ret))
theorem cf_impl_size_L_L_impl_Push : chkFn Tryz.prog i_impl_size_L_L_impl_Push ac_impl_size_L_L_impl_Push [.tmp 2] 5 = true := by decide +kernel
def fa_impl_size_L_L_impl_Push : FnA := ⟨ac_impl_size_L_L_impl_Push, [.tmp 2], 5, false, true, [], .any, none⟩

/-- The checked code of impl size       int64 . -/
def ac_impl_size_L_L_L_int64 : AC := (.seq (.post (.reg [⟨(some 2), .op (.mv (.const (Value.int .i64 0))), none⟩]) (.kill [2]))
  (.seq (.post (.reg [⟨(some 3), .op (.mv (.tmp 0)), none⟩,
    ⟨(some 4), .op (.len false (.tmp 3)), none⟩,
    ⟨(some 2), .op (.mv (.tmp 4)), none⟩]) (.kill [0, 3, 4]))
  .ret))
theorem cf_impl_size_L_L_L_int64 : chkFn Tryz.prog i_impl_size_L_L_L_int64 ac_impl_size_L_L_L_int64 [.tmp 2] 5 = true := by decide +kernel
def fa_impl_size_L_L_L_int64 : FnA := ⟨ac_impl_size_L_L_L_int64, [.tmp 2], 5, false, true, [], .any, none⟩

/-- The checked code of impl size     int64 . -/
def ac_impl_size_L_L_int64 : AC := (.seq (.post (.reg [⟨(some 2), .op (.mv (.const (Value.int .i64 0))), none⟩]) (.kill [2]))
  (.seq (.post (.reg [⟨(some 3), .op (.mv (.tmp 0)), none⟩,
    ⟨(some 4), .op (.len false (.tmp 3)), none⟩,
    ⟨(some 2), .op (.mv (.tmp 4)), none⟩]) (.kill [0, 3, 4]))
  .ret))
theorem cf_impl_size_L_L_int64 : chkFn Tryz.prog i_impl_size_L_L_int64 ac_impl_size_L_L_int64 [.tmp 2] 5 = true := by decide +kernel
def fa_impl_size_L_L_int64 : FnA := ⟨ac_impl_size_L_L_int64, [.tmp 2], 5, false, true, [], .any, none⟩

/-- The checked code of cmp Or int . -/
def lb_cmp_Or_int_0 : AC := (.seq (.reg [⟨(some 9), .op (.bin .lss (.tmp 8) (.tmp 7)), none⟩])
  (.seq (.cond (.tmp 9) (.ghost (.kill [9]) .skip)
  (.ghost (.kill [6, 7, 8, 9]) (.exit 0)))
  (.seq (.block 1 (.seq (.post (.reg [⟨(some 10), .op (.iaddrS (.tmp 6) (.tmp 8) 1), none⟩,
    ⟨(some 11), .op (.load 1 false (.tmp 10)), none⟩,
    ⟨(some 5), .op (.mv (.tmp 11)), none⟩]) (.kill [10, 11]))
  (.seq (.post (.reg [⟨(some 12), .op (.mv (.tmp 5)), none⟩,
    ⟨(some 13), .op (.mv (.tmp 3)), none⟩,
    ⟨(some 14), .op (.bin .neq (.tmp 12) (.tmp 13)), none⟩]) (.kill [12, 13]))
  (.cond (.tmp 14) (.ghost (.kill [3, 6, 7, 8, 14]) (.seq (.post (.reg [⟨(some 15), .op (.mv (.tmp 5)), none⟩,
    ⟨(some 2), .op (.mv (.tmp 15)), none⟩]) (.kill [5, 15]))
  .ret))
  (.ghost (.kill [5, 14]) .skip)))))
  (.post (.reg [⟨(some 16), .op (.bin .add (.tmp 8) (.const (Value.int .i64 1))), none⟩,
    ⟨(some 8), .op (.mv (.tmp 16)), none⟩]) (.kill [16])))))
def lo_cmp_Or_int_0 : AC := (.loop lb_cmp_Or_int_0)
def ac_cmp_Or_int : AC := (.seq (.post (.reg [⟨(some 2), .op (.mv (.const (Value.int .i64 0))), none⟩]) (.kill [2]))
  (.seq (.reg [⟨(some 3), .op (.mv (.const (Value.int .i64 0))), none⟩])
  (.seq (.seq (.post (.reg [⟨(some 6), .op (.mv (.tmp 0)), none⟩,
    ⟨(some 7), .op (.len false (.tmp 6)), none⟩,
    ⟨(some 8), .op (.mv (.const (Value.int .i64 0))), none⟩]) (.kill [0]))
  (.block 0 lo_cmp_Or_int_0))
  (.ghost (.kill [6, 7, 8]) (.seq (.post (.reg [⟨(some 17), .op (.mv (.tmp 3)), none⟩,
    ⟨(some 2), .op (.mv (.tmp 17)), none⟩]) (.kill [3, 17]))
  .ret)))))
theorem cf_cmp_Or_int : chkFn Tryz.prog i_cmp_Or_int ac_cmp_Or_int [.tmp 2] 18 = true := by decide +kernel
def fa_cmp_Or_int : FnA := ⟨ac_cmp_Or_int, [.tmp 2], 18, false, true, [], .any, none⟩

/-- The checked code of cmp isNaN int64 . -/
def ac_cmp_isNaN_int64 : AC := (.seq (.post (.reg [⟨(some 2), .op (.mv (.const (Value.bool false))), none⟩]) (.kill [2]))
  (.seq (.post (.reg [⟨(some 3), .op (.mv (.tmp 0)), none⟩,
    ⟨(some 4), .op (.mv (.tmp 0)), none⟩,
    ⟨(some 5), .op (.bin .neq (.tmp 3) (.tmp 4)), none⟩,
    ⟨(some 2), .op (.mv (.tmp 5)), none⟩]) (.kill [0, 3, 4, 5]))
  .ret))
theorem cf_cmp_isNaN_int64 : chkFn Tryz.prog i_cmp_isNaN_int64 ac_cmp_isNaN_int64 [.tmp 2] 6 = true := by decide +kernel
def fa_cmp_isNaN_int64 : FnA := ⟨ac_cmp_isNaN_int64, [.tmp 2], 6, false, true, [], .any, none⟩

/-- The checked code of cmp Compare int64 . -/
def ac_cmp_Compare_int64 : AC := (.seq (.post (.reg [⟨(some 4), .op (.mv (.const (Value.int .i64 0))), none⟩]) (.kill [4]))
  (.seq (.post (.reg [⟨(some 7), .op (.mv (.tmp 0)), none⟩,
    ⟨(some 8), .call (.func i_cmp_isNaN_int64) [(.tmp 7)], none⟩,
    ⟨(some 5), .op (.mv (.tmp 8)), none⟩]) (.kill [7, 8]))
  (.seq (.post (.reg [⟨(some 9), .op (.mv (.tmp 1)), none⟩,
    ⟨(some 10), .call (.func i_cmp_isNaN_int64) [(.tmp 9)], none⟩,
    ⟨(some 6), .op (.mv (.tmp 10)), none⟩]) (.kill [9, 10]))
  (.seq (.seq (.post (.reg [⟨(some 11), .op (.mv (.tmp 5)), none⟩]) (.kill [5]))
  (.cond (.tmp 11) (.ghost (.kill [0, 1, 11]) (.seq (.seq (.post (.reg [⟨(some 12), .op (.mv (.tmp 6)), none⟩]) (.kill [6]))
  (.cond (.tmp 12) (.ghost (.kill [12]) (.seq (.reg [⟨(some 4), .op (.mv (.const (Value.int .i64 0))), none⟩])
  .ret))
  (.ghost (.kill [12]) .skip)))
  (.seq (.reg [⟨(some 4), .op (.mv (.const (Value.int .i64 (-1)))), none⟩])
  .ret)))
  (.ghost (.kill [11]) .skip)))
  (.seq (.seq (.post (.reg [⟨(some 13), .op (.mv (.tmp 6)), none⟩]) (.kill [6]))
  (.cond (.tmp 13) (.ghost (.kill [0, 1, 13]) (.seq (.reg [⟨(some 4), .op (.mv (.const (Value.int .i64 1))), none⟩])
  .ret))
  (.ghost (.kill [13]) .skip)))
  (.seq (.seq (.post (.reg [⟨(some 14), .op (.mv (.tmp 0)), none⟩,
    ⟨(some 15), .op (.mv (.tmp 1)), none⟩,
    ⟨(some 16), .op (.bin .lss (.tmp 14) (.tmp 15)), none⟩]) (.kill [14, 15]))
  (.cond (.tmp 16) (.ghost (.kill [0, 1, 16]) (.seq (.reg [⟨(some 4), .op (.mv (.const (Value.int .i64 (-1)))), none⟩])
  .ret))
  (.ghost (.kill [16]) .skip)))
  (.seq (.seq (.post (.reg [⟨(some 17), .op (.mv (.tmp 0)), none⟩,
    ⟨(some 18), .op (.mv (.tmp 1)), none⟩,
    ⟨(some 19), .op (.bin .gtr (.tmp 17) (.tmp 18)), none⟩]) (.kill [0, 1, 17, 18]))
  (.cond (.tmp 19) (.ghost (.kill [19]) (.seq (.reg [⟨(some 4), .op (.mv (.const (Value.int .i64 1))), none⟩])
  .ret))
  (.ghost (.kill [19]) .skip)))
  (.seq (.reg [⟨(some 4), .op (.mv (.const (Value.int .i64 0))), none⟩])
  .ret))))))))
theorem cf_cmp_Compare_int64 : chkFn Tryz.prog i_cmp_Compare_int64 ac_cmp_Compare_int64 [.tmp 4] 20 = true := by decide +kernel
def fa_cmp_Compare_int64 : FnA := ⟨ac_cmp_Compare_int64, [.tmp 4], 20, false, true, [], .any, none⟩

/-- The checked code of impl comparePushes. -/
def ac_impl_comparePushes : AC := (.seq (.post (.reg [⟨(some 2), .op (.box true (.tmp 0)), none⟩,
    ⟨(some 3), .op (.box true (.tmp 1)), none⟩,
    ⟨(some 4), .op (.mv (.const (Value.int .i64 0))), none⟩]) (.kill [0, 1, 4]))
  (.seq (.post (.draw [⟨0, ⟨(some 5), .op (.faddr (.tmp 2) 0), none⟩, []⟩,
    ⟨1, ⟨(some 6), .op (.load 1 false (.tmp 5)), none⟩, []⟩,
    ⟨2, ⟨(some 7), .op (.faddr (.tmp 3) 0), none⟩, []⟩,
    ⟨3, ⟨(some 8), .op (.load 1 false (.tmp 7)), none⟩, []⟩,
    ⟨5, ⟨(some 10), .op (.faddr (.tmp 2) 1), none⟩, []⟩,
    ⟨6, ⟨(some 11), .op (.load 1 false (.tmp 10)), none⟩, []⟩,
    ⟨7, ⟨(some 12), .op (.faddr (.tmp 3) 1), none⟩, []⟩,
    ⟨8, ⟨(some 13), .op (.load 1 false (.tmp 12)), none⟩, []⟩,
    ⟨4, ⟨(some 9), .call (.func i_cmp_Compare_int64) [(.tmp 6), (.tmp 8)], none⟩, [6, 8]⟩,
    ⟨9, ⟨(some 14), .call (.func i_cmp_Compare_int64) [(.tmp 11), (.tmp 13)], none⟩, []⟩,
    ⟨10, ⟨(some 15), .op (.lits false 1 2 (Value.int .i64 0) [(0, (.tmp 9)), (1, (.tmp 14))]), none⟩, []⟩,
    ⟨11, ⟨(some 16), .call (.func i_cmp_Or_int) [(.tmp 15)], none⟩, []⟩,
    ⟨12, ⟨(some 4), .op (.mv (.tmp 16)), none⟩, []⟩]
    [0, 1, 0, 4, 15, 0, 32, 0, 128, 511, 1023, 2047, 4095]) (.kill [2, 3, 5, 6, 7, 8, 9, 10, 11, 12, 13, 14, 15, 16]))
  .ret))
theorem cf_impl_comparePushes : chkFn Tryz.prog i_impl_comparePushes ac_impl_comparePushes [.tmp 4] 17 = true := by decide +kernel
def fa_impl_comparePushes : FnA := ⟨ac_impl_comparePushes, [.tmp 4], 17, false, true, [], .any, none⟩

/-- The checked code of impl size   int64 . -/
def ac_impl_size_L_int64 : AC := (.seq (.post (.reg [⟨(some 2), .op (.mv (.const (Value.int .i64 0))), none⟩]) (.kill [2]))
  (.seq (.post (.reg [⟨(some 3), .op (.mv (.tmp 0)), none⟩,
    ⟨(some 4), .op (.len false (.tmp 3)), none⟩,
    ⟨(some 2), .op (.mv (.tmp 4)), none⟩]) (.kill [0, 3, 4]))
  .ret))
theorem cf_impl_size_L_int64 : chkFn Tryz.prog i_impl_size_L_int64 ac_impl_size_L_int64 [.tmp 2] 5 = true := by decide +kernel
def fa_impl_size_L_int64 : FnA := ⟨ac_impl_size_L_int64, [.tmp 2], 5, false, true, [], .any, none⟩

/-- The checked code of slices IndexFunc     int64   int64 . -/
def lb_slices_IndexFunc_L_L_int64_0 : AC := (.seq (.reg [⟨(some 9), .op (.bin .lss (.tmp 8) (.tmp 7)), none⟩])
  (.seq (.cond (.tmp 9) (.ghost (.kill [9]) .skip)
  (.ghost (.kill [0, 1, 7, 8, 9]) (.exit 0)))
  (.seq (.block 1 (.seq (.post (.reg [⟨(some 10), .op (.mv (.tmp 8)), none⟩,
    ⟨(some 5), .op (.mv (.tmp 10)), none⟩]) (.kill [10]))
  (.seq (.post (.reg [⟨(some 11), .op (.mv (.tmp 1)), none⟩,
    ⟨(some 12), .op (.mv (.tmp 0)), none⟩,
    ⟨(some 13), .op (.mv (.tmp 5)), none⟩,
    ⟨(some 14), .op (.iaddrS (.tmp 12) (.tmp 13) 1), none⟩,
    ⟨(some 15), .op (.load 1 false (.tmp 14)), none⟩,
    ⟨(some 16), .call (.tmp 11) [(.tmp 15)], none⟩]) (.kill [11, 12, 13, 14, 15]))
  (.cond (.tmp 16) (.ghost (.kill [0, 1, 7, 8, 16]) (.seq (.post (.reg [⟨(some 17), .op (.mv (.tmp 5)), none⟩,
    ⟨(some 4), .op (.mv (.tmp 17)), none⟩]) (.kill [5, 17]))
  .ret))
  (.ghost (.kill [5, 16]) .skip)))))
  (.post (.reg [⟨(some 18), .op (.bin .add (.tmp 8) (.const (Value.int .i64 1))), none⟩,
    ⟨(some 8), .op (.mv (.tmp 18)), none⟩]) (.kill [18])))))
def lo_slices_IndexFunc_L_L_int64_0 : AC := (.loop lb_slices_IndexFunc_L_L_int64_0)
def ac_slices_IndexFunc_L_L_int64 : AC := (.seq (.post (.reg [⟨(some 4), .op (.mv (.const (Value.int .i64 0))), none⟩]) (.kill [4]))
  (.seq (.seq (.post (.reg [⟨(some 6), .op (.mv (.tmp 0)), none⟩,
    ⟨(some 7), .op (.len false (.tmp 6)), none⟩,
    ⟨(some 8), .op (.mv (.const (Value.int .i64 0))), none⟩]) (.kill [6]))
  (.block 0 lo_slices_IndexFunc_L_L_int64_0))
  (.ghost (.kill [0, 1, 7, 8]) (.seq (.reg [⟨(some 4), .op (.mv (.const (Value.int .i64 (-1)))), none⟩])
  .ret))))
theorem cf_slices_IndexFunc_L_L_int64 : chkFn Tryz.prog i_slices_IndexFunc_L_L_int64 ac_slices_IndexFunc_L_L_int64 [.tmp 4] 19 = true := by decide +kernel
def fa_slices_IndexFunc_L_L_int64 : FnA := ⟨ac_slices_IndexFunc_L_L_int64, [.tmp 4], 19, false, true, [], .any, none⟩

/-- The checked code of slices ContainsFunc     int64   int64 . -/
def ac_slices_ContainsFunc_L_L_int64 : AC := (.seq (.post (.reg [⟨(some 4), .op (.mv (.const (Value.bool false))), none⟩]) (.kill [4]))
  (.seq (.post (.reg [⟨(some 5), .op (.mv (.tmp 0)), none⟩,
    ⟨(some 6), .op (.mv (.tmp 1)), none⟩,
    ⟨(some 7), .call (.func i_slices_IndexFunc_L_L_int64) [(.tmp 5), (.tmp 6)], none⟩,
    ⟨(some 8), .op (.bin .geq (.tmp 7) (.const (Value.int .i64 0))), none⟩,
    ⟨(some 4), .op (.mv (.tmp 8)), none⟩]) (.kill [0, 1, 5, 6, 7, 8]))
  .ret))
theorem cf_slices_ContainsFunc_L_L_int64 : chkFn Tryz.prog i_slices_ContainsFunc_L_L_int64 ac_slices_ContainsFunc_L_L_int64 [.tmp 4] 9 = true := by decide +kernel
def fa_slices_ContainsFunc_L_L_int64 : FnA := ⟨ac_slices_ContainsFunc_L_L_int64, [.tmp 4], 9, false, true, [], .any, none⟩

/-- The checked code of impl ValidChoices 1. -/
def ac_impl_ValidChoices_1 : AC := (.seq (.post (.reg [⟨(some 3), .op (.mv (.const (Value.bool false))), none⟩]) (.kill [3]))
  (.seq (.post (.reg [⟨(some 4), .op (.mv (.tmp 0)), none⟩,
    ⟨(some 5), .op (.load 1 false (.tmp 1)), none⟩,
    ⟨(some 6), .call (.func i_impl_isRising) [(.tmp 4), (.tmp 5)], none⟩,
    ⟨(some 7), .op (.un .not (.tmp 6)), none⟩,
    ⟨(some 3), .op (.mv (.tmp 7)), none⟩]) (.kill [0, 1, 4, 5, 6, 7]))
  .ret))
theorem cf_impl_ValidChoices_1 : chkFn Tryz.prog i_impl_ValidChoices_1 ac_impl_ValidChoices_1 [.tmp 3] 8 = true := by decide +kernel
def fa_impl_ValidChoices_1 : FnA := ⟨ac_impl_ValidChoices_1, [.tmp 3], 8, false, true, [], .any, none⟩

/-- The checked code of impl ValidChoices. -/
def lb_impl_ValidChoices_0 : AC := (.post (.seq (.reg [⟨(some 90), .op (.bin .lss (.tmp 89) (.tmp 88)), none⟩])
  (.seq (.cond (.tmp 90) (.ghost (.kill [90]) .skip)
  (.ghost (.kill [87, 88, 89, 90]) (.exit 4)))
  (.seq (.block 5 (.seq (.post (.reg [⟨(some 91), .op (.mv (.tmp 89)), none⟩,
    ⟨(some 92), .op (.iaddrS (.tmp 87) (.tmp 89) 2), none⟩,
    ⟨(some 93), .op (.load 2 true (.tmp 92)), none⟩,
    ⟨(some 7), .op (.alloc (Value.agg #[Value.int .i64 0, Value.int .i64 0])), none⟩,
    ⟨(some 6), .op (.mv (.tmp 91)), none⟩,
    ⟨none, .op (.store 2 (.tmp 7) (.tmp 93)), none⟩]) (.kill [91, 92, 93]))
  (.seq (.post (.draw [⟨0, ⟨(some 94), .op (.faddr (.tmp 7) 0), none⟩, []⟩,
    ⟨1, ⟨(some 95), .op (.load 1 false (.tmp 94)), none⟩, []⟩,
    ⟨2, ⟨(some 96), .op (.load 1 false (.tmp 3)), none⟩, []⟩,
    ⟨3, ⟨(some 97), .op (.bin .sub (.tmp 96) (.const (Value.int .i64 1))), none⟩, []⟩,
    ⟨4, ⟨(some 98), .call (.func i_impl_within) [(.tmp 95), (.const (Value.int .i64 0)), (.tmp 97)], none⟩, []⟩,
    ⟨5, ⟨(some 99), .op (.un .not (.tmp 98)), none⟩, []⟩,
    ⟨6, ⟨(some 100), .op (.mv (.tmp 99)), none⟩, []⟩,
    ⟨7, ⟨(some 101), .op (.faddr (.tmp 7) 1), some (100, false)⟩, []⟩,
    ⟨8, ⟨(some 102), .op (.load 1 false (.tmp 101)), some (100, false)⟩, []⟩,
    ⟨9, ⟨(some 103), .op (.faddr (.tmp 1) 0), some (100, false)⟩, []⟩,
    ⟨10, ⟨(some 104), .op (.load 1 false (.tmp 103)), some (100, false)⟩, []⟩,
    ⟨11, ⟨(some 105), .op (.bin .sub (.tmp 104) (.const (Value.int .i64 1))), some (100, false)⟩, []⟩,
    ⟨12, ⟨(some 106), .call (.func i_impl_within) [(.tmp 102), (.const (Value.int .i64 0)), (.tmp 105)], some (100, false)⟩, []⟩,
    ⟨13, ⟨(some 107), .op (.un .not (.tmp 106)), some (100, false)⟩, []⟩,
    ⟨14, ⟨(some 108), .op (.pick (.tmp 100) (.const (Value.bool true)) (.tmp 107)), none⟩, []⟩,
    ⟨15, ⟨(some 109), .op (.mv (.tmp 108)), none⟩, []⟩,
    ⟨16, ⟨(some 110), .op (.mv (.tmp 6)), some (109, false)⟩, []⟩,
    ⟨17, ⟨(some 111), .op (.bin .gtr (.tmp 110) (.const (Value.int .i64 0))), some (109, false)⟩, []⟩,
    ⟨18, ⟨(some 112), .op (.mv (.tmp 111)), some (109, false)⟩, []⟩,
    ⟨19, ⟨(some 113), .op (.faddr (.tmp 1) 3), some (112, true)⟩, []⟩,
    ⟨20, ⟨(some 114), .op (.load 1 false (.tmp 113)), some (112, true)⟩, []⟩,
    ⟨21, ⟨(some 115), .op (.mv (.tmp 4)), some (112, true)⟩, []⟩,
    ⟨22, ⟨(some 116), .op (.iaddrS (.tmp 114) (.tmp 115) 1), some (112, true)⟩, []⟩,
    ⟨23, ⟨(some 117), .op (.load 1 false (.tmp 116)), some (112, true)⟩, []⟩,
    ⟨24, ⟨(some 118), .op (.mv (.tmp 5)), some (112, true)⟩, []⟩,
    ⟨25, ⟨(some 119), .op (.iaddrS (.tmp 117) (.tmp 118) 1), some (112, true)⟩, []⟩,
    ⟨26, ⟨(some 120), .op (.load 1 false (.tmp 119)), some (112, true)⟩, []⟩,
    ⟨27, ⟨(some 121), .op (.mv (.tmp 6)), some (112, true)⟩, []⟩,
    ⟨28, ⟨(some 122), .op (.bin .sub (.tmp 121) (.const (Value.int .i64 1))), some (112, true)⟩, []⟩,
    ⟨29, ⟨(some 123), .op (.iaddrS (.tmp 120) (.tmp 122) 2), some (112, true)⟩, []⟩,
    ⟨30, ⟨(some 124), .op (.load 2 true (.tmp 123)), some (112, true)⟩, []⟩,
    ⟨31, ⟨(some 125), .op (.load 2 true (.tmp 7)), some (112, true)⟩, []⟩,
    ⟨32, ⟨(some 126), .call (.func i_impl_comparePushes) [(.tmp 124), (.tmp 125)], some (112, true)⟩, []⟩,
    ⟨33, ⟨(some 127), .op (.bin .geq (.tmp 126) (.const (Value.int .i64 0))), some (112, true)⟩, []⟩,
    ⟨34, ⟨(some 128), .op (.pick (.tmp 112) (.tmp 127) (.const (Value.bool false))), some (109, false)⟩, []⟩,
    ⟨35, ⟨(some 129), .op (.pick (.tmp 109) (.const (Value.bool true)) (.tmp 128)), none⟩, []⟩]
    [0, 1, 0, 4, 15, 31, 63, 127, 255, 127, 639, 1663, 4095, 8191, 16383, 32767, 65535, 131071, 262143, 524287, 1048575, 524287, 4194303, 8388607, 524287, 33554431, 67108863, 524287, 134742015, 536870911, 1073741823, 524287, 4294967295, 8589934591, 17179869183, 34359738367]) (.kill [6, 7, 94, 95, 96, 97, 98, 99, 100, 101, 102, 103, 104, 105, 106, 107, 108, 109, 110, 111, 112, 113, 114, 115, 116, 117, 118, 119, 120, 121, 122, 123, 124, 125, 126, 127, 128]))
  (.cond (.tmp 129) (.ghost (.kill [1, 3, 4, 5, 48, 49, 77, 87, 88, 89, 129]) (.seq (.reg [⟨(some 2), .op (.mv (.const (Value.bool false))), none⟩])
  .ret))
  (.ghost (.kill [129]) .skip)))))
  (.post (.reg [⟨(some 130), .op (.bin .add (.tmp 89) (.const (Value.int .i64 1))), none⟩,
    ⟨(some 89), .op (.mv (.tmp 130)), none⟩]) (.kill [130]))))) .nv)
def lo_impl_ValidChoices_0 : AC := (.loop lb_impl_ValidChoices_0)
def lb_impl_ValidChoices_1 : AC := (.post (.seq (.reg [⟨(some 78), .op (.bin .lss (.tmp 77) (.const (Value.int .i64 2))), none⟩])
  (.seq (.cond (.tmp 78) (.ghost (.kill [78]) .skip)
  (.ghost (.kill [4, 77, 78]) (.exit 2)))
  (.seq (.block 3 (.seq (.post (.reg [⟨(some 79), .op (.mv (.tmp 77)), none⟩,
    ⟨(some 5), .op (.mv (.tmp 79)), none⟩]) (.kill [79]))
  (.seq (.seq (.post (.reg [⟨(some 80), .op (.faddr (.tmp 1) 3), none⟩,
    ⟨(some 81), .op (.load 1 false (.tmp 80)), none⟩,
    ⟨(some 82), .op (.mv (.tmp 4)), none⟩,
    ⟨(some 83), .op (.iaddrS (.tmp 81) (.tmp 82) 1), none⟩,
    ⟨(some 84), .op (.load 1 false (.tmp 83)), none⟩,
    ⟨(some 85), .op (.mv (.tmp 5)), none⟩,
    ⟨(some 86), .op (.iaddrS (.tmp 84) (.tmp 85) 1), none⟩,
    ⟨(some 87), .op (.load 1 false (.tmp 86)), none⟩,
    ⟨(some 88), .op (.len false (.tmp 87)), none⟩,
    ⟨(some 89), .op (.mv (.const (Value.int .i64 0))), none⟩]) (.kill [80, 81, 82, 83, 84, 85, 86]))
  (.post (.block 4 (.ghost .nv lo_impl_ValidChoices_0)) .nv))
  (.ghost (.kill [87, 88, 89]) (.seq (.post (.draw [⟨0, ⟨(some 131), .op (.faddr (.tmp 1) 5), none⟩, []⟩,
    ⟨1, ⟨(some 132), .op (.load 1 false (.tmp 131)), none⟩, []⟩,
    ⟨2, ⟨(some 133), .op (.mv (.tmp 4)), none⟩, []⟩,
    ⟨3, ⟨(some 134), .op (.iaddrS (.tmp 132) (.tmp 133) 1), none⟩, []⟩,
    ⟨4, ⟨(some 135), .op (.load 1 false (.tmp 134)), none⟩, []⟩,
    ⟨5, ⟨(some 136), .op (.mv (.tmp 5)), none⟩, []⟩,
    ⟨6, ⟨(some 137), .op (.iaddrS (.tmp 135) (.tmp 136) 1), none⟩, []⟩,
    ⟨7, ⟨(some 138), .op (.load 1 false (.tmp 137)), none⟩, []⟩,
    ⟨8, ⟨(some 139), .op (.load 1 false (.tmp 3)), none⟩, []⟩,
    ⟨9, ⟨(some 140), .call (.func i_impl_isRising) [(.tmp 138), (.tmp 139)], none⟩, []⟩,
    ⟨10, ⟨(some 141), .op (.un .not (.tmp 140)), none⟩, []⟩,
    ⟨11, ⟨(some 142), .op (.mv (.tmp 141)), none⟩, []⟩,
    ⟨12, ⟨(some 143), .op (.faddr (.tmp 1) 4), some (142, false)⟩, []⟩,
    ⟨13, ⟨(some 144), .op (.load 1 false (.tmp 143)), some (142, false)⟩, []⟩,
    ⟨14, ⟨(some 145), .op (.mv (.tmp 4)), some (142, false)⟩, []⟩,
    ⟨15, ⟨(some 146), .op (.iaddrS (.tmp 144) (.tmp 145) 1), some (142, false)⟩, []⟩,
    ⟨16, ⟨(some 147), .op (.load 1 false (.tmp 146)), some (142, false)⟩, []⟩,
    ⟨17, ⟨(some 148), .op (.mv (.tmp 5)), some (142, false)⟩, []⟩,
    ⟨18, ⟨(some 149), .op (.iaddrS (.tmp 147) (.tmp 148) 1), some (142, false)⟩, []⟩,
    ⟨19, ⟨(some 150), .op (.load 1 false (.tmp 149)), some (142, false)⟩, []⟩,
    ⟨21, ⟨(some 152), .op (.faddr (.tmp 1) 0), some (142, false)⟩, []⟩,
    ⟨22, ⟨(some 153), .op (.load 1 false (.tmp 152)), some (142, false)⟩, []⟩,
    ⟨23, ⟨(some 154), .op (.bin .add (.tmp 153) (.const (Value.int .i64 1))), some (142, false)⟩, []⟩,
    ⟨20, ⟨(some 151), .call (.func i_impl_size_L_int64) [(.tmp 150)], some (142, false)⟩, [22]⟩,
    ⟨24, ⟨(some 155), .op (.bin .neq (.tmp 151) (.tmp 154)), some (142, false)⟩, []⟩,
    ⟨25, ⟨(some 156), .op (.pick (.tmp 142) (.const (Value.bool true)) (.tmp 155)), none⟩, []⟩,
    ⟨26, ⟨(some 157), .op (.mv (.tmp 156)), none⟩, []⟩,
    ⟨27, ⟨(some 158), .op (.faddr (.tmp 1) 4), some (157, false)⟩, []⟩,
    ⟨28, ⟨(some 159), .op (.load 1 false (.tmp 158)), some (157, false)⟩, []⟩,
    ⟨29, ⟨(some 160), .op (.mv (.tmp 4)), some (157, false)⟩, []⟩,
    ⟨30, ⟨(some 161), .op (.iaddrS (.tmp 159) (.tmp 160) 1), some (157, false)⟩, []⟩,
    ⟨31, ⟨(some 162), .op (.load 1 false (.tmp 161)), some (157, false)⟩, []⟩,
    ⟨32, ⟨(some 163), .op (.mv (.tmp 5)), some (157, false)⟩, []⟩,
    ⟨33, ⟨(some 164), .op (.iaddrS (.tmp 162) (.tmp 163) 1), some (157, false)⟩, []⟩,
    ⟨34, ⟨(some 165), .op (.load 1 false (.tmp 164)), some (157, false)⟩, []⟩,
    ⟨35, ⟨(some 166), .op (.mkfn i_impl_ValidChoices_1 [(.tmp 3)]), some (157, false)⟩, []⟩,
    ⟨36, ⟨(some 167), .call (.func i_slices_ContainsFunc_L_L_int64) [(.tmp 165), (.tmp 166)], some (157, false)⟩, []⟩,
    ⟨37, ⟨(some 168), .op (.pick (.tmp 157) (.const (Value.bool true)) (.tmp 167)), none⟩, []⟩]
    [0, 1, 0, 7, 15, 0, 63, 127, 0, 511, 1023, 2047, 4095, 8191, 4095, 32767, 65535, 4095, 262143, 524287, 1048575, 4095, 2101247, 6295551, 16777215, 33554431, 67108863, 134217727, 268435455, 134217727, 1073741823, 2147483647, 134217727, 8589934591, 17179869183, 134217727, 68719476735, 137438953471]) (.kill [5, 131, 132, 133, 134, 135, 136, 137, 138, 139, 140, 141, 142, 143, 144, 145, 146, 147, 148, 149, 150, 151, 152, 153, 154, 155, 156, 157, 158, 159, 160, 161, 162, 163, 164, 165, 166, 167]))
  (.cond (.tmp 168) (.ghost (.kill [1, 3, 4, 48, 49, 77, 168]) (.seq (.reg [⟨(some 2), .op (.mv (.const (Value.bool false))), none⟩])
  .ret))
  (.ghost (.kill [168]) .skip)))))))
  (.post (.reg [⟨(some 169), .op (.bin .add (.tmp 77) (.const (Value.int .i64 1))), none⟩,
    ⟨(some 77), .op (.mv (.tmp 169)), none⟩]) (.kill [169]))))) .nv)
def lo_impl_ValidChoices_1 : AC := (.loop lb_impl_ValidChoices_1)
def lb_impl_ValidChoices_2 : AC := (.post (.seq (.reg [⟨(some 50), .op (.bin .lss (.tmp 49) (.tmp 48)), none⟩])
  (.seq (.cond (.tmp 50) (.ghost (.kill [50]) .skip)
  (.ghost (.kill [1, 3, 48, 49, 50]) (.exit 0)))
  (.seq (.block 1 (.seq (.post (.reg [⟨(some 51), .op (.mv (.tmp 49)), none⟩,
    ⟨(some 4), .op (.mv (.tmp 51)), none⟩]) (.kill [51]))
  (.seq (.seq (.post (.reg [⟨(some 52), .op (.faddr (.tmp 1) 3), none⟩,
    ⟨(some 53), .op (.load 1 false (.tmp 52)), none⟩,
    ⟨(some 54), .op (.mv (.tmp 4)), none⟩,
    ⟨(some 55), .op (.iaddrS (.tmp 53) (.tmp 54) 1), none⟩,
    ⟨(some 56), .op (.load 1 false (.tmp 55)), none⟩,
    ⟨(some 57), .op (.len false (.tmp 56)), none⟩,
    ⟨(some 58), .op (.bin .neq (.tmp 57) (.const (Value.int .i64 2))), none⟩,
    ⟨(some 59), .op (.mv (.tmp 58)), none⟩,
    ⟨(some 60), .op (.faddr (.tmp 1) 4), some (59, false)⟩,
    ⟨(some 61), .op (.load 1 false (.tmp 60)), some (59, false)⟩,
    ⟨(some 62), .op (.mv (.tmp 4)), some (59, false)⟩,
    ⟨(some 63), .op (.iaddrS (.tmp 61) (.tmp 62) 1), some (59, false)⟩,
    ⟨(some 64), .op (.load 1 false (.tmp 63)), some (59, false)⟩,
    ⟨(some 65), .op (.len false (.tmp 64)), some (59, false)⟩,
    ⟨(some 66), .op (.bin .neq (.tmp 65) (.const (Value.int .i64 2))), some (59, false)⟩,
    ⟨(some 67), .op (.pick (.tmp 59) (.const (Value.bool true)) (.tmp 66)), none⟩,
    ⟨(some 68), .op (.mv (.tmp 67)), none⟩,
    ⟨(some 69), .op (.faddr (.tmp 1) 5), some (68, false)⟩,
    ⟨(some 70), .op (.load 1 false (.tmp 69)), some (68, false)⟩,
    ⟨(some 71), .op (.mv (.tmp 4)), some (68, false)⟩,
    ⟨(some 72), .op (.iaddrS (.tmp 70) (.tmp 71) 1), some (68, false)⟩,
    ⟨(some 73), .op (.load 1 false (.tmp 72)), some (68, false)⟩,
    ⟨(some 74), .op (.len false (.tmp 73)), some (68, false)⟩,
    ⟨(some 75), .op (.bin .neq (.tmp 74) (.const (Value.int .i64 2))), some (68, false)⟩,
    ⟨(some 76), .op (.pick (.tmp 68) (.const (Value.bool true)) (.tmp 75)), none⟩]) (.kill [52, 53, 54, 55, 56, 57, 58, 59, 60, 61, 62, 63, 64, 65, 66, 67, 68, 69, 70, 71, 72, 73, 74, 75]))
  (.cond (.tmp 76) (.ghost (.kill [1, 3, 4, 48, 49, 76]) (.seq (.reg [⟨(some 2), .op (.mv (.const (Value.bool false))), none⟩])
  .ret))
  (.ghost (.kill [76]) .skip)))
  (.seq (.reg [⟨(some 77), .op (.mv (.const (Value.int .i64 0))), none⟩])
  (.post (.block 2 (.ghost .nv lo_impl_ValidChoices_1)) .nv)))))
  (.ghost (.kill [4, 77]) (.post (.reg [⟨(some 170), .op (.bin .add (.tmp 49) (.const (Value.int .i64 1))), none⟩,
    ⟨(some 49), .op (.mv (.tmp 170)), none⟩]) (.kill [170])))))) .nv)
def lo_impl_ValidChoices_2 : AC := (.loop lb_impl_ValidChoices_2)
def ac_impl_ValidChoices : AC := (.seq (.post (.reg [⟨(some 1), .op (.box true (.tmp 0)), none⟩,
    ⟨(some 2), .op (.mv (.const (Value.bool false))), none⟩]) (.kill [0, 2]))
  (.seq (.post (.reg [⟨(some 8), .op (.faddr (.tmp 1) 2), none⟩,
    ⟨(some 9), .op (.load 1 false (.tmp 8)), none⟩,
    ⟨(some 10), .call (.func i_impl_size_bool) [(.tmp 9)], none⟩,
    ⟨(some 3), .op (.alloc (Value.int .i64 0)), none⟩,
    ⟨none, .op (.store 1 (.tmp 3) (.tmp 10)), none⟩]) (.kill [8, 9, 10]))
  (.seq (.seq (.post (.draw [⟨0, ⟨(some 11), .op (.load 1 false (.tmp 3)), none⟩, []⟩,
    ⟨1, ⟨(some 12), .call (.func i_impl_within) [(.tmp 11), (.const (Value.int .i64 1)), (.const (Value.int .i64 5))], none⟩, []⟩,
    ⟨2, ⟨(some 13), .op (.un .not (.tmp 12)), none⟩, []⟩,
    ⟨3, ⟨(some 14), .op (.mv (.tmp 13)), none⟩, []⟩,
    ⟨4, ⟨(some 15), .op (.faddr (.tmp 1) 0), some (14, false)⟩, []⟩,
    ⟨5, ⟨(some 16), .op (.load 1 false (.tmp 15)), some (14, false)⟩, []⟩,
    ⟨6, ⟨(some 17), .call (.func i_impl_within) [(.tmp 16), (.const (Value.int .i64 1)), (.const (Value.int .i64 4))], some (14, false)⟩, []⟩,
    ⟨7, ⟨(some 18), .op (.un .not (.tmp 17)), some (14, false)⟩, []⟩,
    ⟨8, ⟨(some 19), .op (.pick (.tmp 14) (.const (Value.bool true)) (.tmp 18)), none⟩, []⟩,
    ⟨9, ⟨(some 20), .op (.mv (.tmp 19)), none⟩, []⟩,
    ⟨10, ⟨(some 21), .op (.faddr (.tmp 1) 1), some (20, false)⟩, []⟩,
    ⟨11, ⟨(some 22), .op (.load 1 false (.tmp 21)), some (20, false)⟩, []⟩,
    ⟨12, ⟨(some 23), .op (.load 1 false (.tmp 3)), some (20, false)⟩, []⟩,
    ⟨13, ⟨(some 24), .call (.func i_impl_isRising) [(.tmp 22), (.tmp 23)], some (20, false)⟩, []⟩,
    ⟨14, ⟨(some 25), .op (.un .not (.tmp 24)), some (20, false)⟩, []⟩,
    ⟨15, ⟨(some 26), .op (.pick (.tmp 20) (.const (Value.bool true)) (.tmp 25)), none⟩, []⟩,
    ⟨16, ⟨(some 27), .op (.mv (.tmp 26)), none⟩, []⟩,
    ⟨17, ⟨(some 28), .op (.faddr (.tmp 1) 3), some (27, false)⟩, []⟩,
    ⟨18, ⟨(some 29), .op (.load 1 false (.tmp 28)), some (27, false)⟩, []⟩,
    ⟨20, ⟨(some 31), .op (.load 1 false (.tmp 3)), some (27, false)⟩, []⟩,
    ⟨19, ⟨(some 30), .call (.func i_impl_size_L_L_impl_Push) [(.tmp 29)], some (27, false)⟩, [20]⟩,
    ⟨21, ⟨(some 32), .op (.bin .neq (.tmp 30) (.tmp 31)), some (27, false)⟩, []⟩,
    ⟨22, ⟨(some 33), .op (.pick (.tmp 27) (.const (Value.bool true)) (.tmp 32)), none⟩, []⟩,
    ⟨23, ⟨(some 34), .op (.mv (.tmp 33)), none⟩, []⟩,
    ⟨24, ⟨(some 35), .op (.faddr (.tmp 1) 4), some (34, false)⟩, []⟩,
    ⟨25, ⟨(some 36), .op (.load 1 false (.tmp 35)), some (34, false)⟩, []⟩,
    ⟨27, ⟨(some 38), .op (.load 1 false (.tmp 3)), some (34, false)⟩, []⟩,
    ⟨26, ⟨(some 37), .call (.func i_impl_size_L_L_L_int64) [(.tmp 36)], some (34, false)⟩, [27]⟩,
    ⟨28, ⟨(some 39), .op (.bin .neq (.tmp 37) (.tmp 38)), some (34, false)⟩, []⟩,
    ⟨29, ⟨(some 40), .op (.pick (.tmp 34) (.const (Value.bool true)) (.tmp 39)), none⟩, []⟩,
    ⟨30, ⟨(some 41), .op (.mv (.tmp 40)), none⟩, []⟩,
    ⟨31, ⟨(some 42), .op (.faddr (.tmp 1) 5), some (41, false)⟩, []⟩,
    ⟨32, ⟨(some 43), .op (.load 1 false (.tmp 42)), some (41, false)⟩, []⟩,
    ⟨34, ⟨(some 45), .op (.load 1 false (.tmp 3)), some (41, false)⟩, []⟩,
    ⟨33, ⟨(some 44), .call (.func i_impl_size_L_L_int64) [(.tmp 43)], some (41, false)⟩, [34]⟩,
    ⟨35, ⟨(some 46), .op (.bin .neq (.tmp 44) (.tmp 45)), some (41, false)⟩, []⟩,
    ⟨36, ⟨(some 47), .op (.pick (.tmp 41) (.const (Value.bool true)) (.tmp 46)), none⟩, []⟩]
    [0, 1, 3, 7, 15, 31, 63, 127, 255, 511, 1023, 2047, 1023, 8191, 16383, 32767, 65535, 131071, 262143, 524287, 131071, 2097151, 4194303, 8388607, 16777215, 33554431, 67108863, 16777215, 268435455, 536870911, 1073741823, 2147483647, 4294967295, 8589934591, 2147483647, 34359738367, 68719476735]) (.kill [11, 12, 13, 14, 15, 16, 17, 18, 19, 20, 21, 22, 23, 24, 25, 26, 27, 28, 29, 30, 31, 32, 33, 34, 35, 36, 37, 38, 39, 40, 41, 42, 43, 44, 45, 46]))
  (.cond (.tmp 47) (.ghost (.kill [1, 3, 47]) (.seq (.reg [⟨(some 2), .op (.mv (.const (Value.bool false))), none⟩])
  .ret))
  (.ghost (.kill [47]) .skip)))
  (.seq (.seq (.reg [⟨(some 48), .op (.load 1 false (.tmp 3)), none⟩,
    ⟨(some 49), .op (.mv (.const (Value.int .i64 0))), none⟩])
  (.post (.block 0 (.ghost .nv lo_impl_ValidChoices_2)) .nv))
  (.ghost (.kill [1, 3, 48, 49]) (.seq (.reg [⟨(some 2), .op (.mv (.const (Value.bool true))), none⟩])
  .ret))))))
theorem cf_impl_ValidChoices : chkFn Tryz.prog i_impl_ValidChoices ac_impl_ValidChoices [.tmp 2] 171 = true := by decide +kernel
def fa_impl_ValidChoices : FnA := ⟨ac_impl_ValidChoices, [.tmp 2], 171, false, true, [], .any, none⟩

/-- The checked code of stringslite IndexByte. -/
def ac_internal_stringslite_IndexByte : AC := (.seq (.post (.reg [⟨(some 4), .op (.mv (.const (Value.int .i64 0))), none⟩]) (.kill [4]))
  (.seq (.post (.reg [⟨(some 5), .op (.mv (.tmp 0)), none⟩,
    ⟨(some 6), .op (.mv (.tmp 1)), none⟩,
    ⟨(some 7), .op (.idxb i_internal_bytealg_IndexByteString (.tmp 5) (.tmp 6)), none⟩,
    ⟨(some 4), .op (.mv (.tmp 7)), none⟩]) (.kill [0, 1, 5, 6, 7]))
  .ret))
theorem cf_internal_stringslite_IndexByte : chkFn Tryz.prog i_internal_stringslite_IndexByte ac_internal_stringslite_IndexByte [.tmp 4] 8 = true := by decide +kernel
def fa_internal_stringslite_IndexByte : FnA := ⟨ac_internal_stringslite_IndexByte, [.tmp 4], 8, false, true, [], .any, none⟩

/-- The checked code of strings IndexByte. -/
def ac_strings_IndexByte : AC := (.seq (.post (.reg [⟨(some 4), .op (.mv (.const (Value.int .i64 0))), none⟩]) (.kill [4]))
  (.seq (.post (.reg [⟨(some 5), .op (.mv (.tmp 0)), none⟩,
    ⟨(some 6), .op (.mv (.tmp 1)), none⟩,
    ⟨(some 7), .call (.func i_internal_stringslite_IndexByte) [(.tmp 5), (.tmp 6)], none⟩,
    ⟨(some 4), .op (.mv (.tmp 7)), none⟩]) (.kill [0, 1, 5, 6, 7]))
  .ret))
theorem cf_strings_IndexByte : chkFn Tryz.prog i_strings_IndexByte ac_strings_IndexByte [.tmp 4] 8 = true := by decide +kernel
def fa_strings_IndexByte : FnA := ⟨ac_strings_IndexByte, [.tmp 4], 8, false, true, [], .any, none⟩

/-- The checked code of impl ValidWord. -/
def lb_impl_ValidWord_0 : AC := (.seq (.reg [⟨(some 7), .op (.bin .lss (.tmp 6) (.tmp 5)), none⟩])
  (.seq (.cond (.tmp 7) (.ghost (.kill [7]) .skip)
  (.ghost (.kill [5, 6, 7]) (.exit 0)))
  (.seq (.block 1 (.seq (.post (.reg [⟨(some 8), .op (.mv (.tmp 6)), none⟩,
    ⟨(some 3), .op (.mv (.tmp 8)), none⟩]) (.kill [8]))
  (.seq (.post (.reg [⟨(some 9), .op (.mv (.tmp 0)), none⟩,
    ⟨(some 10), .op (.mv (.tmp 3)), none⟩,
    ⟨(some 11), .op (.idxStr (.tmp 9) (.tmp 10)), none⟩,
    ⟨(some 12), .call (.func i_strings_IndexByte) [(.const (Value.string ⟨#[40, 91, 41, 93, 97, 98]⟩)), (.tmp 11)], none⟩,
    ⟨(some 13), .op (.bin .lss (.tmp 12) (.const (Value.int .i64 0))), none⟩]) (.kill [3, 9, 10, 11, 12]))
  (.cond (.tmp 13) (.ghost (.kill [0, 5, 6, 13]) (.seq (.reg [⟨(some 2), .op (.mv (.const (Value.bool false))), none⟩])
  .ret))
  (.ghost (.kill [13]) .skip)))))
  (.post (.reg [⟨(some 14), .op (.bin .add (.tmp 6) (.const (Value.int .i64 1))), none⟩,
    ⟨(some 6), .op (.mv (.tmp 14)), none⟩]) (.kill [14])))))
def lo_impl_ValidWord_0 : AC := (.loop lb_impl_ValidWord_0)
def ac_impl_ValidWord : AC := (.seq (.post (.reg [⟨(some 2), .op (.mv (.const (Value.bool false))), none⟩]) (.kill [2]))
  (.seq (.seq (.post (.reg [⟨(some 4), .op (.mv (.tmp 0)), none⟩,
    ⟨(some 5), .op (.len true (.tmp 4)), none⟩,
    ⟨(some 6), .op (.mv (.const (Value.int .i64 0))), none⟩]) (.kill [4]))
  (.block 0 lo_impl_ValidWord_0))
  (.ghost (.kill [5, 6]) (.seq (.post (.reg [⟨(some 15), .op (.mv (.tmp 0)), none⟩,
    ⟨(some 16), .op (.len true (.tmp 15)), none⟩,
    ⟨(some 17), .op (.bin .leq (.tmp 16) (.const (Value.int .i64 60))), none⟩,
    ⟨(some 2), .op (.mv (.tmp 17)), none⟩]) (.kill [0, 15, 16, 17]))
  .ret))))
theorem cf_impl_ValidWord : chkFn Tryz.prog i_impl_ValidWord ac_impl_ValidWord [.tmp 2] 18 = true := by decide +kernel
def fa_impl_ValidWord : FnA := ⟨ac_impl_ValidWord, [.tmp 2], 18, false, true, [], .any, none⟩

/-- The checked code of impl isCall. -/
def ac_impl_isCall : AC := (.seq (.post (.reg [⟨(some 2), .op (.mv (.const (Value.bool false))), none⟩]) (.kill [2]))
  (.seq (.post (.reg [⟨(some 3), .op (.mv (.tmp 0)), none⟩,
    ⟨(some 4), .op (.bin .eql (.tmp 3) (.const (Value.int .u8 40))), none⟩,
    ⟨(some 5), .op (.mv (.tmp 4)), none⟩,
    ⟨(some 6), .op (.mv (.tmp 0)), some (5, false)⟩,
    ⟨(some 7), .op (.bin .eql (.tmp 6) (.const (Value.int .u8 91))), some (5, false)⟩,
    ⟨(some 8), .op (.pick (.tmp 5) (.const (Value.bool true)) (.tmp 7)), none⟩,
    ⟨(some 2), .op (.mv (.tmp 8)), none⟩]) (.kill [0, 3, 4, 5, 6, 7, 8]))
  .ret))
theorem cf_impl_isCall : chkFn Tryz.prog i_impl_isCall ac_impl_isCall [.tmp 2] 9 = true := by decide +kernel
def fa_impl_isCall : FnA := ⟨ac_impl_isCall, [.tmp 2], 9, false, true, [], .any, none⟩

/-- The checked code of impl isReturn. -/
def ac_impl_isReturn : AC := (.seq (.post (.reg [⟨(some 2), .op (.mv (.const (Value.bool false))), none⟩]) (.kill [2]))
  (.seq (.post (.reg [⟨(some 3), .op (.mv (.tmp 0)), none⟩,
    ⟨(some 4), .op (.bin .eql (.tmp 3) (.const (Value.int .u8 41))), none⟩,
    ⟨(some 5), .op (.mv (.tmp 4)), none⟩,
    ⟨(some 6), .op (.mv (.tmp 0)), some (5, false)⟩,
    ⟨(some 7), .op (.bin .eql (.tmp 6) (.const (Value.int .u8 93))), some (5, false)⟩,
    ⟨(some 8), .op (.pick (.tmp 5) (.const (Value.bool true)) (.tmp 7)), none⟩,
    ⟨(some 2), .op (.mv (.tmp 8)), none⟩]) (.kill [0, 3, 4, 5, 6, 7, 8]))
  .ret))
theorem cf_impl_isReturn : chkFn Tryz.prog i_impl_isReturn ac_impl_isReturn [.tmp 2] 9 = true := by decide +kernel
def fa_impl_isReturn : FnA := ⟨ac_impl_isReturn, [.tmp 2], 9, false, true, [], .any, none⟩

/-- The checked code of impl size int64 . -/
def ac_impl_size_int64 : AC := (.seq (.post (.reg [⟨(some 2), .op (.mv (.const (Value.int .i64 0))), none⟩]) (.kill [2]))
  (.seq (.post (.reg [⟨(some 3), .op (.mv (.tmp 0)), none⟩,
    ⟨(some 4), .op (.len false (.tmp 3)), none⟩,
    ⟨(some 2), .op (.mv (.tmp 4)), none⟩]) (.kill [0, 3, 4]))
  .ret))
theorem cf_impl_size_int64 : chkFn Tryz.prog i_impl_size_int64 ac_impl_size_int64 [.tmp 2] 5 = true := by decide +kernel
def fa_impl_size_int64 : FnA := ⟨ac_impl_size_int64, [.tmp 2], 5, false, true, [], .any, none⟩

/-- The checked code of impl match. -/
def lb_impl_match_0 : AC := (.post (.seq (.reg [⟨(some 15), .op (.bin .lss (.tmp 14) (.tmp 13)), none⟩])
  (.seq (.cond (.tmp 15) (.ghost (.kill [15]) .skip)
  (.ghost (.kill [0, 13, 14, 15]) (.exit 0)))
  (.seq (.block 1 (.seq (.post (.reg [⟨(some 16), .op (.mv (.tmp 14)), none⟩,
    ⟨(some 4), .op (.mv (.tmp 16)), none⟩]) (.kill [16]))
  (.seq (.post (.reg [⟨(some 17), .op (.mv (.tmp 4)), none⟩,
    ⟨(some 5), .op (.mv (.tmp 17)), none⟩,
    ⟨(some 6), .op (.mv (.const (Value.int .i64 (-1)))), none⟩]) (.kill [17]))
  (.seq (.post (.reg [⟨(some 18), .op (.faddr (.tmp 3) 2), none⟩,
    ⟨(some 19), .op (.load 1 false (.tmp 18)), none⟩,
    ⟨(some 20), .op (.len false (.tmp 19)), none⟩,
    ⟨(some 7), .op (.mv (.tmp 20)), none⟩]) (.kill [18, 19, 20]))
  (.seq (.block 2 (.seq (.post (.reg [⟨(some 22), .op (.mv (.tmp 0)), none⟩,
    ⟨(some 23), .op (.mv (.tmp 4)), none⟩,
    ⟨(some 24), .op (.idxStr (.tmp 22) (.tmp 23)), none⟩,
    ⟨(some 25), .call (.func i_impl_isReturn) [(.tmp 24)], none⟩,
    ⟨(some 26), .op (.mv (.tmp 25)), none⟩,
    ⟨(some 27), .op (.mv (.tmp 7)), some (26, true)⟩,
    ⟨(some 28), .op (.bin .eql (.tmp 27) (.const (Value.int .i64 0))), some (26, true)⟩,
    ⟨(some 29), .op (.pick (.tmp 26) (.tmp 28) (.const (Value.bool false))), none⟩,
    ⟨(some 21), .op (.mv (.tmp 29)), none⟩]) (.kill [22, 23, 24, 25, 26, 27, 28, 29]))
  (.cond (.tmp 21) (.ghost (.kill [6, 7, 21]) (.seq (.reg [⟨(some 6), .op (.mv (.const (Value.int .i64 (-2)))), none⟩])
  (.post (.post (.reg [⟨(some 30), .op (.faddr (.tmp 3) 1), none⟩,
    ⟨(some 31), .op (.load 1 false (.tmp 30)), none⟩,
    ⟨(some 32), .op (.mv (.tmp 5)), none⟩,
    ⟨(some 33), .op (.lits true 1 1 (Value.int .i64 0) [(0, (.tmp 32))]), none⟩,
    ⟨(some 34), .op (.append (.tmp 31) (.tmp 33) 1 8), none⟩,
    ⟨(some 35), .op (.faddr (.tmp 3) 1), none⟩,
    ⟨none, .op (.store 1 (.tmp 35) (.tmp 34)), none⟩]) (.kill [30, 31, 32, 33, 34, 35])) .nv)))
  (.ghost (.kill [21]) (.seq (.post (.reg [⟨(some 37), .op (.mv (.tmp 0)), none⟩,
    ⟨(some 38), .op (.mv (.tmp 4)), none⟩,
    ⟨(some 39), .op (.idxStr (.tmp 37) (.tmp 38)), none⟩,
    ⟨(some 40), .call (.func i_impl_isReturn) [(.tmp 39)], none⟩,
    ⟨(some 36), .op (.mv (.tmp 40)), none⟩]) (.kill [37, 38, 39, 40]))
  (.cond (.tmp 36) (.ghost (.kill [6, 36]) (.seq (.post (.reg [⟨(some 41), .op (.faddr (.tmp 3) 2), none⟩,
    ⟨(some 42), .op (.load 1 false (.tmp 41)), none⟩,
    ⟨(some 43), .op (.mv (.tmp 7)), none⟩,
    ⟨(some 44), .op (.bin .sub (.tmp 43) (.const (Value.int .i64 1))), none⟩,
    ⟨(some 45), .op (.iaddrS (.tmp 42) (.tmp 44) 1), none⟩,
    ⟨(some 46), .op (.load 1 false (.tmp 45)), none⟩,
    ⟨(some 6), .op (.mv (.tmp 46)), none⟩]) (.kill [41, 42, 43, 44, 45, 46]))
  (.seq (.post (.reg [⟨(some 47), .op (.faddr (.tmp 3) 0), none⟩,
    ⟨(some 48), .op (.load 1 false (.tmp 47)), none⟩,
    ⟨(some 49), .op (.mv (.tmp 6)), none⟩,
    ⟨(some 50), .op (.mv (.tmp 5)), none⟩,
    ⟨(some 51), .op (.iaddrS (.tmp 48) (.tmp 49) 1), none⟩,
    ⟨none, .op (.store 1 (.tmp 51) (.tmp 50)), none⟩]) (.kill [47, 48, 49, 50, 51]))
  (.post (.post (.reg [⟨(some 52), .op (.faddr (.tmp 3) 2), none⟩,
    ⟨(some 53), .op (.load 1 false (.tmp 52)), none⟩,
    ⟨(some 54), .op (.mv (.tmp 7)), none⟩,
    ⟨(some 55), .op (.bin .sub (.tmp 54) (.const (Value.int .i64 1))), none⟩,
    ⟨(some 56), .op (.slcS (.tmp 53) none (some (.tmp 55)) none 1), none⟩,
    ⟨(some 57), .op (.faddr (.tmp 3) 2), none⟩,
    ⟨none, .op (.store 1 (.tmp 57) (.tmp 56)), none⟩]) (.kill [7, 52, 53, 54, 55, 56, 57])) .nv))))
  (.ghost (.kill [7, 36]) .skip)))))))
  (.seq (.reg [⟨(some 8), .op (.mv (.const (Value.int .i64 (-1)))), none⟩])
  (.seq (.seq (.post (.reg [⟨(some 58), .op (.faddr (.tmp 3) 2), none⟩,
    ⟨(some 59), .op (.load 1 false (.tmp 58)), none⟩,
    ⟨(some 60), .op (.len false (.tmp 59)), none⟩,
    ⟨(some 9), .op (.mv (.tmp 60)), none⟩]) (.kill [58, 59, 60]))
  (.seq (.post (.reg [⟨(some 61), .op (.mv (.tmp 9)), none⟩,
    ⟨(some 62), .op (.bin .gtr (.tmp 61) (.const (Value.int .i64 0))), none⟩]) (.kill [61]))
  (.cond (.tmp 62) (.ghost (.kill [8, 62]) (.post (.reg [⟨(some 63), .op (.faddr (.tmp 3) 2), none⟩,
    ⟨(some 64), .op (.load 1 false (.tmp 63)), none⟩,
    ⟨(some 65), .op (.mv (.tmp 9)), none⟩,
    ⟨(some 66), .op (.bin .sub (.tmp 65) (.const (Value.int .i64 1))), none⟩,
    ⟨(some 67), .op (.iaddrS (.tmp 64) (.tmp 66) 1), none⟩,
    ⟨(some 68), .op (.load 1 false (.tmp 67)), none⟩,
    ⟨(some 8), .op (.mv (.tmp 68)), none⟩]) (.kill [9, 63, 64, 65, 66, 67, 68])))
  (.ghost (.kill [9, 62]) .skip))))
  (.seq (.seq (.post (.reg [⟨(some 69), .op (.mv (.tmp 0)), none⟩,
    ⟨(some 70), .op (.mv (.tmp 4)), none⟩,
    ⟨(some 71), .op (.idxStr (.tmp 69) (.tmp 70)), none⟩,
    ⟨(some 72), .call (.func i_impl_isCall) [(.tmp 71)], none⟩]) (.kill [4, 69, 70, 71]))
  (.cond (.tmp 72) (.ghost (.kill [6, 72]) (.seq (.reg [⟨(some 6), .op (.mv (.const (Value.int .i64 (-2)))), none⟩])
  (.post (.post (.reg [⟨(some 73), .op (.faddr (.tmp 3) 2), none⟩,
    ⟨(some 74), .op (.load 1 false (.tmp 73)), none⟩,
    ⟨(some 75), .op (.mv (.tmp 5)), none⟩,
    ⟨(some 76), .op (.lits true 1 1 (Value.int .i64 0) [(0, (.tmp 75))]), none⟩,
    ⟨(some 77), .op (.append (.tmp 74) (.tmp 76) 1 8), none⟩,
    ⟨(some 78), .op (.faddr (.tmp 3) 2), none⟩,
    ⟨none, .op (.store 1 (.tmp 78) (.tmp 77)), none⟩]) (.kill [5, 73, 74, 75, 76, 77, 78])) .nv)))
  (.ghost (.kill [5, 72]) .skip)))
  (.seq (.post (.post (.draw [⟨0, ⟨(some 79), .op (.faddr (.tmp 3) 0), none⟩, []⟩,
    ⟨1, ⟨(some 80), .op (.load 1 false (.tmp 79)), none⟩, []⟩,
    ⟨2, ⟨(some 81), .op (.mv (.tmp 6)), none⟩, []⟩,
    ⟨3, ⟨(some 82), .op (.lits true 1 1 (Value.int .i64 0) [(0, (.tmp 81))]), none⟩, []⟩,
    ⟨5, ⟨(some 84), .op (.faddr (.tmp 3) 4), none⟩, []⟩,
    ⟨6, ⟨(some 85), .op (.load 1 false (.tmp 84)), none⟩, []⟩,
    ⟨7, ⟨(some 86), .op (.mv (.tmp 8)), none⟩, []⟩,
    ⟨8, ⟨(some 87), .op (.lits true 1 1 (Value.int .i64 0) [(0, (.tmp 86))]), none⟩, []⟩,
    ⟨4, ⟨(some 83), .op (.append (.tmp 80) (.tmp 82) 1 8), none⟩, [6]⟩,
    ⟨10, ⟨(some 89), .op (.faddr (.tmp 3) 0), none⟩, []⟩,
    ⟨9, ⟨(some 88), .op (.append (.tmp 85) (.tmp 87) 1 8), none⟩, []⟩,
    ⟨11, ⟨none, .op (.store 1 (.tmp 89) (.tmp 83)), none⟩, []⟩,
    ⟨12, ⟨(some 90), .op (.faddr (.tmp 3) 4), none⟩, []⟩,
    ⟨13, ⟨none, .op (.store 1 (.tmp 90) (.tmp 88)), none⟩, []⟩]
    [0, 1, 0, 4, 15, 0, 32, 0, 128, 511, 127, 2047, 4095, 8191]) (.kill [6, 8, 79, 80, 81, 82, 83, 84, 85, 86, 87, 88, 89, 90])) .nv)
  (.post (.post (.draw [⟨0, ⟨(some 91), .op (.faddr (.tmp 3) 3), none⟩, []⟩,
    ⟨1, ⟨(some 92), .op (.load 1 false (.tmp 91)), none⟩, []⟩,
    ⟨2, ⟨(some 93), .op (.faddr (.tmp 3) 2), none⟩, []⟩,
    ⟨3, ⟨(some 94), .op (.load 1 false (.tmp 93)), none⟩, []⟩,
    ⟨4, ⟨(some 95), .call (.func i_impl_size_int64) [(.tmp 94)], none⟩, [1]⟩,
    ⟨5, ⟨(some 96), .op (.lits true 1 1 (Value.int .i64 0) [(0, (.tmp 95))]), none⟩, []⟩,
    ⟨6, ⟨(some 97), .op (.append (.tmp 92) (.tmp 96) 1 8), none⟩, []⟩,
    ⟨7, ⟨(some 98), .op (.faddr (.tmp 3) 3), none⟩, []⟩,
    ⟨8, ⟨none, .op (.store 1 (.tmp 98) (.tmp 97)), none⟩, []⟩]
    [0, 1, 0, 4, 12, 28, 63, 127, 255]) (.kill [91, 92, 93, 94, 95, 96, 97, 98])) .nv))))))))))
  (.post (.reg [⟨(some 99), .op (.bin .add (.tmp 14) (.const (Value.int .i64 1))), none⟩,
    ⟨(some 14), .op (.mv (.tmp 99)), none⟩]) (.kill [99]))))) .nv)
def lo_impl_match_0 : AC := (.loop lb_impl_match_0)
def ac_impl_match : AC := (.seq (.reg [⟨(some 2), .op (.alloc (Value.agg #[Value.slice none 0 0, Value.slice none 0 0, Value.slice none 0 0, Value.slice none 0 0, Value.slice none 0 0])), none⟩])
  (.seq (.post (.reg [⟨(some 10), .op (.lits false 1 1 (Value.int .i64 0) [(0, (.const (Value.int .i64 0)))]), none⟩,
    ⟨(some 11), .op (.build [Value.slice none 0 0, Value.slice none 0 0, Value.slice none 0 0, Value.slice none 0 0, Value.slice none 0 0] [(3, 1, (.tmp 10))]), none⟩,
    ⟨(some 3), .op (.alloc (Value.agg #[Value.slice none 0 0, Value.slice none 0 0, Value.slice none 0 0, Value.slice none 0 0, Value.slice none 0 0])), none⟩,
    ⟨none, .op (.store 5 (.tmp 3) (.tmp 11)), none⟩]) (.kill [10, 11]))
  (.seq (.seq (.post (.reg [⟨(some 12), .op (.mv (.tmp 0)), none⟩,
    ⟨(some 13), .op (.len true (.tmp 12)), none⟩,
    ⟨(some 14), .op (.mv (.const (Value.int .i64 0))), none⟩]) (.kill [12]))
  (.post (.block 0 (.ghost (.ow 3 (some 0) 1) (.ghost (.ow 3 (some 1) 1) (.ghost (.ow 3 (some 2) 1) (.ghost (.ow 3 (some 3) 1) (.ghost (.ow 3 (some 4) 1) (.ghost .nv lo_impl_match_0))))))) .nv))
  (.ghost (.kill [0, 13, 14]) (.seq (.post (.reg [⟨(some 100), .op (.load 5 true (.tmp 3)), none⟩,
    ⟨none, .op (.store 5 (.tmp 2) (.tmp 100)), none⟩]) (.kill [3, 100]))
  .ret)))))
theorem cf_impl_match : chkFn Tryz.prog i_impl_match ac_impl_match [.cell 2 5 true] 101 = true := by decide +kernel
def fa_impl_match : FnA := ⟨ac_impl_match, [.cell 2 5 true], 101, false, true, [], .any, none⟩

/-- The checked code of impl isMatched. -/
def ac_impl_isMatched : AC := (.seq (.post (.reg [⟨(some 2), .op (.mv (.const (Value.bool false))), none⟩]) (.kill [2]))
  (.seq (.post (.reg [⟨(some 4), .op (.mv (.tmp 0)), none⟩,
    ⟨(some 5), .call (.func i_impl_match) [(.tmp 4)], none⟩,
    ⟨(some 3), .op (.alloc (Value.agg #[Value.slice none 0 0, Value.slice none 0 0, Value.slice none 0 0, Value.slice none 0 0, Value.slice none 0 0])), none⟩,
    ⟨none, .op (.store 5 (.tmp 3) (.tmp 5)), none⟩]) (.kill [0, 4, 5]))
  (.seq (.post (.reg [⟨(some 6), .op (.faddr (.tmp 3) 1), none⟩,
    ⟨(some 7), .op (.load 1 false (.tmp 6)), none⟩,
    ⟨(some 8), .op (.len false (.tmp 7)), none⟩,
    ⟨(some 9), .op (.faddr (.tmp 3) 2), none⟩,
    ⟨(some 10), .op (.load 1 false (.tmp 9)), none⟩,
    ⟨(some 11), .op (.len false (.tmp 10)), none⟩,
    ⟨(some 12), .op (.bin .add (.tmp 8) (.tmp 11)), none⟩,
    ⟨(some 13), .op (.bin .eql (.tmp 12) (.const (Value.int .i64 0))), none⟩,
    ⟨(some 2), .op (.mv (.tmp 13)), none⟩]) (.kill [3, 6, 7, 8, 9, 10, 11, 12, 13]))
  .ret)))
theorem cf_impl_isMatched : chkFn Tryz.prog i_impl_isMatched ac_impl_isMatched [.tmp 2] 14 = true := by decide +kernel
def fa_impl_isMatched : FnA := ⟨ac_impl_isMatched, [.tmp 2], 14, false, true, [], .any, none⟩

/-- The checked code of impl Choices  same. -/
def lb_impl_Choices_same_0 : AC := (.post (.seq (.reg [⟨(some 10), .op (.bin .lss (.tmp 9) (.tmp 8)), none⟩])
  (.seq (.cond (.tmp 10) (.ghost (.kill [10]) .skip)
  (.ghost (.kill [8, 9, 10]) (.exit 0)))
  (.seq (.block 1 (.seq (.post (.reg [⟨(some 11), .op (.mv (.tmp 9)), none⟩,
    ⟨(some 4), .op (.mv (.tmp 11)), none⟩]) (.kill [11]))
  (.post (.reg [⟨(some 12), .op (.mv (.tmp 4)), none⟩,
    ⟨(some 13), .op (.mv (.tmp 4)), none⟩,
    ⟨(some 14), .op (.bin .shl (.const (Value.int .u64 1)) (.tmp 13)), none⟩,
    ⟨(some 15), .op (.iaddrA (.tmp 3) (.tmp 12) 5 1), none⟩,
    ⟨none, .op (.store 1 (.tmp 15) (.tmp 14)), none⟩]) (.kill [4, 12, 13, 14, 15]))))
  (.post (.reg [⟨(some 16), .op (.bin .add (.tmp 9) (.const (Value.int .i64 1))), none⟩,
    ⟨(some 9), .op (.mv (.tmp 16)), none⟩]) (.kill [16]))))) .nv)
def lo_impl_Choices_same_0 : AC := (.loop lb_impl_Choices_same_0)
def ac_impl_Choices_same : AC := (.seq (.post (.reg [⟨(some 1), .op (.box true (.tmp 0)), none⟩,
    ⟨(some 2), .op (.alloc (Value.agg #[Value.int .u64 0, Value.int .u64 0, Value.int .u64 0, Value.int .u64 0, Value.int .u64 0])), none⟩]) (.kill [0]))
  (.seq (.post (.reg [⟨(some 5), .op (.build [Value.int .u64 0, Value.int .u64 0, Value.int .u64 0, Value.int .u64 0, Value.int .u64 0] []), none⟩,
    ⟨(some 3), .op (.alloc (Value.agg #[Value.int .u64 0, Value.int .u64 0, Value.int .u64 0, Value.int .u64 0, Value.int .u64 0])), none⟩,
    ⟨none, .op (.store 5 (.tmp 3) (.tmp 5)), none⟩]) (.kill [5]))
  (.seq (.seq (.post (.reg [⟨(some 6), .op (.faddr (.tmp 1) 2), none⟩,
    ⟨(some 7), .op (.load 1 false (.tmp 6)), none⟩,
    ⟨(some 8), .op (.len false (.tmp 7)), none⟩,
    ⟨(some 9), .op (.mv (.const (Value.int .i64 0))), none⟩]) (.kill [1, 6, 7]))
  (.post (.block 0 (.ghost .nv lo_impl_Choices_same_0)) .nv))
  (.ghost (.kill [8, 9]) (.seq (.post (.reg [⟨(some 17), .op (.load 5 true (.tmp 3)), none⟩,
    ⟨none, .op (.store 5 (.tmp 2) (.tmp 17)), none⟩]) (.kill [3, 17]))
  .ret)))))
theorem cf_impl_Choices_same : chkFn Tryz.prog i_impl_Choices_same ac_impl_Choices_same [.cell 2 5 true] 18 = true := by decide +kernel
def fa_impl_Choices_same : FnA := ⟨ac_impl_Choices_same, [.cell 2 5 true], 18, false, true, [], .any, none⟩

/-- The checked code of impl bits. -/
def lb_impl_bits_0 : AC := (.seq (.reg [⟨(some 9), .op (.bin .lss (.tmp 8) (.tmp 7)), none⟩])
  (.seq (.cond (.tmp 9) (.ghost (.kill [9]) .skip)
  (.ghost (.kill [6, 7, 8, 9]) (.exit 0)))
  (.seq (.block 1 (.seq (.post (.reg [⟨(some 10), .op (.iaddrS (.tmp 6) (.tmp 8) 1), none⟩,
    ⟨(some 11), .op (.load 1 false (.tmp 10)), none⟩,
    ⟨(some 5), .op (.mv (.tmp 11)), none⟩]) (.kill [10, 11]))
  (.post (.reg [⟨(some 12), .op (.mv (.tmp 3)), none⟩,
    ⟨(some 13), .op (.mv (.tmp 5)), none⟩,
    ⟨(some 14), .op (.bin .shl (.const (Value.int .u64 1)) (.tmp 13)), none⟩,
    ⟨(some 15), .op (.bin .or (.tmp 12) (.tmp 14)), none⟩,
    ⟨(some 3), .op (.mv (.tmp 15)), none⟩]) (.kill [5, 12, 13, 14, 15]))))
  (.post (.reg [⟨(some 16), .op (.bin .add (.tmp 8) (.const (Value.int .i64 1))), none⟩,
    ⟨(some 8), .op (.mv (.tmp 16)), none⟩]) (.kill [16])))))
def lo_impl_bits_0 : AC := (.loop lb_impl_bits_0)
def ac_impl_bits : AC := (.seq (.post (.reg [⟨(some 2), .op (.mv (.const (Value.int .u64 0))), none⟩]) (.kill [2]))
  (.seq (.reg [⟨(some 3), .op (.mv (.const (Value.int .u64 0))), none⟩])
  (.seq (.seq (.post (.reg [⟨(some 6), .op (.mv (.tmp 0)), none⟩,
    ⟨(some 7), .op (.len false (.tmp 6)), none⟩,
    ⟨(some 8), .op (.mv (.const (Value.int .i64 0))), none⟩]) (.kill [0]))
  (.block 0 lo_impl_bits_0))
  (.ghost (.kill [6, 7, 8]) (.seq (.post (.reg [⟨(some 17), .op (.mv (.tmp 3)), none⟩,
    ⟨(some 2), .op (.mv (.tmp 17)), none⟩]) (.kill [3, 17]))
  .ret)))))
theorem cf_impl_bits : chkFn Tryz.prog i_impl_bits ac_impl_bits [.tmp 2] 18 = true := by decide +kernel
def fa_impl_bits : FnA := ⟨ac_impl_bits, [.tmp 2], 18, false, true, [], .any, none⟩

/-- The checked code of impl Choices  start. -/
def ac_impl_Choices_start : AC := (.seq (.post (.reg [⟨(some 1), .op (.box true (.tmp 0)), none⟩,
    ⟨(some 2), .op (.alloc (Value.agg #[Value.int .u64 0, Value.int .u64 0, Value.int .u64 0, Value.int .u64 0, Value.int .u64 0, Value.int .u64 0])), none⟩]) (.kill [0]))
  (.seq (.post (.draw [⟨0, ⟨(some 3), .op (.load 6 true (.tmp 1)), none⟩, []⟩,
    ⟨2, ⟨(some 5), .op (.faddr (.tmp 1) 1), none⟩, []⟩,
    ⟨3, ⟨(some 6), .op (.load 1 false (.tmp 5)), none⟩, []⟩,
    ⟨1, ⟨(some 4), .call (.func i_impl_Choices_same) [(.tmp 3)], none⟩, [3]⟩,
    ⟨4, ⟨(some 7), .call (.func i_impl_bits) [(.tmp 6)], none⟩, []⟩,
    ⟨5, ⟨(some 8), .op (.build [Value.int .u64 0, Value.int .u64 0, Value.int .u64 0, Value.int .u64 0, Value.int .u64 0, Value.int .u64 0] [(0, 5, (.tmp 4)), (5, 1, (.tmp 7))]), none⟩, []⟩,
    ⟨6, ⟨none, .op (.store 6 (.tmp 2) (.tmp 8)), none⟩, []⟩]
    [0, 1, 0, 4, 15, 31, 63]) (.kill [1, 3, 4, 5, 6, 7, 8]))
  .ret))
theorem cf_impl_Choices_start : chkFn Tryz.prog i_impl_Choices_start ac_impl_Choices_start [.cell 2 6 true] 9 = true := by decide +kernel
def fa_impl_Choices_start : FnA := ⟨ac_impl_Choices_start, [.cell 2 6 true], 9, false, true, [], .any, none⟩

/-- The checked code of impl states. -/
def lb_impl_states_0 : AC := (.post (.seq (.seq (.post (.reg [⟨(some 6), .op (.mv (.tmp 0)), none⟩,
    ⟨(some 7), .op (.mv (.tmp 4)), none⟩,
    ⟨(some 8), .op (.bin .shr (.tmp 6) (.tmp 7)), none⟩,
    ⟨(some 9), .op (.bin .gtr (.tmp 8) (.const (Value.int .u64 0))), none⟩]) (.kill [6, 7, 8]))
  (.cond (.tmp 9) (.ghost (.kill [9]) .skip)
  (.ghost (.kill [0, 4, 9]) (.exit 0))))
  (.seq (.block 1 (.seq (.post (.reg [⟨(some 12), .op (.mv (.tmp 0)), none⟩,
    ⟨(some 13), .op (.mv (.tmp 4)), none⟩,
    ⟨(some 14), .op (.bin .shr (.tmp 12) (.tmp 13)), none⟩,
    ⟨(some 15), .op (.bin .and (.tmp 14) (.const (Value.int .u64 1))), none⟩,
    ⟨(some 16), .op (.bin .eql (.tmp 15) (.const (Value.int .u64 1))), none⟩]) (.kill [12, 13, 14, 15]))
  (.cond (.tmp 16) (.ghost (.kill [16]) (.post (.post (.reg [⟨(some 17), .op (.mv (.tmp 3)), none⟩,
    ⟨(some 18), .op (.mv (.tmp 4)), none⟩,
    ⟨(some 19), .op (.lits true 1 1 (Value.int .i64 0) [(0, (.tmp 18))]), none⟩,
    ⟨(some 20), .op (.append (.tmp 17) (.tmp 19) 1 8), none⟩,
    ⟨(some 3), .op (.mv (.tmp 20)), none⟩]) (.kill [17, 18, 19, 20])) .nv))
  (.ghost (.kill [16]) .skip))))
  (.post (.reg [⟨(some 10), .op (.mv (.tmp 4)), none⟩,
    ⟨(some 11), .op (.bin .add (.tmp 10) (.const (Value.int .i64 1))), none⟩,
    ⟨(some 4), .op (.mv (.tmp 11)), none⟩]) (.kill [10, 11])))) .nv)
def lo_impl_states_0 : AC := (.loop lb_impl_states_0)
def ac_impl_states : AC := (.seq (.post (.reg [⟨(some 2), .op (.mv (.const (Value.slice none 0 0))), none⟩]) (.kill [2]))
  (.seq (.post (.reg [⟨(some 5), .op (.lits true 1 0 (Value.int .i64 0) []), none⟩,
    ⟨(some 3), .op (.mv (.tmp 5)), none⟩]) (.kill [5]))
  (.seq (.seq (.reg [⟨(some 4), .op (.mv (.const (Value.int .i64 0))), none⟩])
  (.post (.block 0 (.ghost (.ow 3 none 1) (.ghost .nv lo_impl_states_0))) .nv))
  (.ghost (.kill [0, 4]) (.seq (.post (.reg [⟨(some 21), .op (.mv (.tmp 3)), none⟩,
    ⟨(some 2), .op (.mv (.tmp 21)), none⟩]) (.kill [3, 21]))
  .ret)))))
theorem cf_impl_states : chkFn Tryz.prog i_impl_states ac_impl_states [.tmp 2] 22 = true := by decide +kernel
def fa_impl_states : FnA := ⟨ac_impl_states, [.tmp 2], 22, false, false, [], .any, none⟩

/-- The checked code of impl all. -/
def lb_impl_all_0 : AC := (.seq (.reg [⟨(some 12), .op (.bin .lss (.tmp 11) (.tmp 10)), none⟩])
  (.seq (.cond (.tmp 12) (.ghost (.kill [12]) .skip)
  (.ghost (.kill [1, 9, 10, 11, 12]) (.exit 0)))
  (.seq (.block 1 (.seq (.post (.reg [⟨(some 13), .op (.iaddrS (.tmp 9) (.tmp 11) 1), none⟩,
    ⟨(some 14), .op (.load 1 false (.tmp 13)), none⟩,
    ⟨(some 7), .op (.mv (.tmp 14)), none⟩]) (.kill [13, 14]))
  (.post (.reg [⟨(some 15), .op (.mv (.tmp 5)), none⟩,
    ⟨(some 16), .op (.mv (.tmp 1)), none⟩,
    ⟨(some 17), .op (.mv (.tmp 7)), none⟩,
    ⟨(some 18), .call (.tmp 16) [(.tmp 17)], none⟩,
    ⟨(some 19), .op (.bin .or (.tmp 15) (.tmp 18)), none⟩,
    ⟨(some 5), .op (.mv (.tmp 19)), none⟩]) (.kill [7, 15, 16, 17, 18, 19]))))
  (.post (.reg [⟨(some 20), .op (.bin .add (.tmp 11) (.const (Value.int .i64 1))), none⟩,
    ⟨(some 11), .op (.mv (.tmp 20)), none⟩]) (.kill [20])))))
def lo_impl_all_0 : AC := (.loop lb_impl_all_0)
def ac_impl_all : AC := (.seq (.post (.reg [⟨(some 4), .op (.mv (.const (Value.int .u64 0))), none⟩]) (.kill [4]))
  (.seq (.reg [⟨(some 5), .op (.mv (.const (Value.int .u64 0))), none⟩])
  (.seq (.seq (.post (.reg [⟨(some 8), .op (.mv (.tmp 0)), none⟩,
    ⟨(some 9), .call (.func i_impl_states) [(.tmp 8)], none⟩,
    ⟨(some 10), .op (.len false (.tmp 9)), none⟩,
    ⟨(some 11), .op (.mv (.const (Value.int .i64 0))), none⟩]) (.kill [0, 8]))
  (.block 0 lo_impl_all_0))
  (.ghost (.kill [1, 9, 10, 11]) (.seq (.post (.reg [⟨(some 21), .op (.mv (.tmp 5)), none⟩,
    ⟨(some 4), .op (.mv (.tmp 21)), none⟩]) (.kill [5, 21]))
  .ret)))))
theorem cf_impl_all : chkFn Tryz.prog i_impl_all ac_impl_all [.tmp 4] 22 = true := by decide +kernel
def fa_impl_all : FnA := ⟨ac_impl_all, [.tmp 4], 22, false, true, [], .any, none⟩

/-- The checked code of impl Choices  call 1. -/
def lb_impl_Choices_call_1_0 : AC := (.post (.seq (.reg [⟨(some 18), .op (.bin .lss (.tmp 17) (.tmp 16)), none⟩])
  (.seq (.cond (.tmp 18) (.ghost (.kill [18]) .skip)
  (.ghost (.kill [15, 16, 17, 18]) (.exit 0)))
  (.seq (.block 1 (.seq (.post (.reg [⟨(some 19), .op (.iaddrS (.tmp 15) (.tmp 17) 2), none⟩,
    ⟨(some 20), .op (.load 2 true (.tmp 19)), none⟩,
    ⟨(some 7), .op (.alloc (Value.agg #[Value.int .i64 0, Value.int .i64 0])), none⟩,
    ⟨none, .op (.store 2 (.tmp 7) (.tmp 20)), none⟩]) (.kill [19, 20]))
  (.post (.reg [⟨(some 21), .op (.mv (.tmp 5)), none⟩,
    ⟨(some 22), .op (.faddr (.tmp 7) 0), none⟩,
    ⟨(some 23), .op (.load 1 false (.tmp 22)), none⟩,
    ⟨(some 24), .op (.bin .shl (.const (Value.int .u64 1)) (.tmp 23)), none⟩,
    ⟨(some 25), .op (.bin .or (.tmp 21) (.tmp 24)), none⟩,
    ⟨(some 5), .op (.mv (.tmp 25)), none⟩]) (.kill [7, 21, 22, 23, 24, 25]))))
  (.post (.reg [⟨(some 26), .op (.bin .add (.tmp 17) (.const (Value.int .i64 1))), none⟩,
    ⟨(some 17), .op (.mv (.tmp 26)), none⟩]) (.kill [26]))))) .nv)
def lo_impl_Choices_call_1_0 : AC := (.loop lb_impl_Choices_call_1_0)
def ac_impl_Choices_call_1 : AC := (.seq (.post (.reg [⟨(some 4), .op (.mv (.const (Value.int .u64 0))), none⟩]) (.kill [4]))
  (.seq (.reg [⟨(some 5), .op (.mv (.const (Value.int .u64 0))), none⟩])
  (.seq (.seq (.post (.draw [⟨0, ⟨(some 8), .op (.faddr (.tmp 1) 3), none⟩, []⟩,
    ⟨1, ⟨(some 9), .op (.load 1 false (.tmp 8)), none⟩, []⟩,
    ⟨2, ⟨(some 10), .op (.mv (.tmp 0)), none⟩, []⟩,
    ⟨3, ⟨(some 11), .op (.iaddrS (.tmp 9) (.tmp 10) 1), none⟩, []⟩,
    ⟨4, ⟨(some 12), .op (.load 1 false (.tmp 11)), none⟩, []⟩,
    ⟨5, ⟨(some 13), .op (.load 1 false (.tmp 2)), none⟩, []⟩,
    ⟨6, ⟨(some 14), .op (.iaddrS (.tmp 12) (.tmp 13) 1), none⟩, []⟩,
    ⟨7, ⟨(some 15), .op (.load 1 false (.tmp 14)), none⟩, []⟩,
    ⟨8, ⟨(some 16), .op (.len false (.tmp 15)), none⟩, []⟩,
    ⟨9, ⟨(some 17), .op (.mv (.const (Value.int .i64 0))), none⟩, []⟩]
    [0, 1, 0, 7, 15, 0, 63, 127, 255, 0]) (.kill [0, 1, 2, 8, 9, 10, 11, 12, 13, 14]))
  (.post (.block 0 (.ghost .nv lo_impl_Choices_call_1_0)) .nv))
  (.ghost (.kill [15, 16, 17]) (.seq (.post (.reg [⟨(some 27), .op (.mv (.tmp 5)), none⟩,
    ⟨(some 4), .op (.mv (.tmp 27)), none⟩]) (.kill [5, 27]))
  .ret)))))
theorem cf_impl_Choices_call_1 : chkFn Tryz.prog i_impl_Choices_call_1 ac_impl_Choices_call_1 [.tmp 4] 28 = true := by decide +kernel
def fa_impl_Choices_call_1 : FnA := ⟨ac_impl_Choices_call_1, [.tmp 4], 28, false, true, [], .any, none⟩

end Go.Proofs.YtipmgemnjcjobaaGreat
