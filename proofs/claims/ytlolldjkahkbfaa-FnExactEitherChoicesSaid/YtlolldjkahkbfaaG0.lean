/- The code of the functions, checked against the loaded program; printed by a program (gen2.py). -/
import Derived.Test.YtlolldjkahkbfaaProg
import Derived.Test.YtlolldjkahkbfaaAw25
set_option linter.unusedVariables false
set_option maxRecDepth 100000
namespace Go.Proofs.Ytlolldjkahkbfaa
open Aw

/-! The numbers of the functions. -/
def i_laws_FnExactEitherChoices : FuncId := 7
def i_laws_eqInt64S : FuncId := 25
def i_laws_markInt64S : FuncId := 28
def i_laws_heldInt64S : FuncId := 29
def i_laws_eqInt64SS : FuncId := 34
def i_laws_markInt64SS : FuncId := 37
def i_laws_heldInt64SS : FuncId := 38
def i_laws_toInt64S : FuncId := 42
def i_laws_szChoices : FuncId := 46
def i_spec_EitherChoices : FuncId := 47
def i_laws_toChoices : FuncId := 48
def i_impl_EitherChoices : FuncId := 49
def i_laws_eqChoices : FuncId := 50
def i_laws_markChoices : FuncId := 51
def i_laws_heldChoices : FuncId := 52
def i_spec_l00In : FuncId := 80
def i_impl_within : FuncId := 87
def i_laws_szInt64S : FuncId := 124
def i_laws_szBoolS : FuncId := 125
def i_laws_szPushSSS : FuncId := 126
def i_laws_szInt64SSSS : FuncId := 127
def i_laws_szInt64SSS : FuncId := 128
def i_spec_l03Ok : FuncId := 129
def i_spec_l03Part : FuncId := 130
def i_spec_l03Told : FuncId := 131
def i_laws_toBoolS : FuncId := 132
def i_laws_toPushSSS : FuncId := 133
def i_laws_toInt64SSSS : FuncId := 134
def i_laws_toInt64SSS : FuncId := 135
def i_impl_ValidChoices : FuncId := 136
def i_impl_EitherChoices_1 : FuncId := 137
def i_impl_raised : FuncId := 138
def i_impl_size_bool : FuncId := 139
def i_impl_choicesOrLimit : FuncId := 140
def i_laws_eqBoolS : FuncId := 141
def i_laws_eqPushSSS : FuncId := 142
def i_laws_eqInt64SSSS : FuncId := 143
def i_laws_eqInt64SSS : FuncId := 144
def i_laws_markBoolS : FuncId := 145
def i_laws_markPushSSS : FuncId := 146
def i_laws_markInt64SSSS : FuncId := 147
def i_laws_markInt64SSS : FuncId := 148
def i_laws_heldBoolS : FuncId := 149
def i_laws_heldPushSSS : FuncId := 150
def i_laws_heldInt64SSSS : FuncId := 151
def i_laws_heldInt64SSS : FuncId := 152
def i_impl_size_L_L_int64 : FuncId := 172
def i_impl_size_L_int64 : FuncId := 173
def i_laws_szPushSS : FuncId := 251
def i_laws_szInt64SS : FuncId := 252
def i_spec_l00Rises : FuncId := 253
def i_spec_l03Pushes : FuncId := 254
def i_spec_l03Raised : FuncId := 255
def i_laws_toPushSS : FuncId := 256
def i_laws_toInt64SS : FuncId := 257
def i_impl_isRising : FuncId := 258
def i_impl_size_L_L_impl_Push : FuncId := 259
def i_impl_size_L_L_L_int64 : FuncId := 260
def i_impl_comparePushes : FuncId := 261
def i_slices_ContainsFunc_L_L_int64 : FuncId := 262
def i_impl_ValidChoices_1 : FuncId := 263
def i_laws_eqPushSS : FuncId := 264
def i_laws_markPushSS : FuncId := 265
def i_laws_heldPushSS : FuncId := 266
def i_laws_szPushS : FuncId := 302
def i_laws_toPushS : FuncId := 303
def i_cmp_Or_int : FuncId := 304
def i_cmp_Compare_int64 : FuncId := 305
def i_slices_IndexFunc_L_L_int64 : FuncId := 306
def i_laws_eqPushS : FuncId := 307
def i_laws_markPushS : FuncId := 308
def i_laws_heldPushS : FuncId := 309
def i_laws_toPush : FuncId := 319
def i_cmp_isNaN_int64 : FuncId := 320
def i_laws_eqPush : FuncId := 321

/-- The checked code of laws szInt64S. -/
def ac_laws_szInt64S : AC := (.seq (.post (.reg [⟨(some 4), .op (.mv (.const (Value.int .i64 0))), none⟩]) (.kill [4]))
  (.seq (.post (.reg [⟨(some 5), .op (.mv (.tmp 1)), none⟩,
    ⟨(some 6), .op (.mv (.tmp 0)), none⟩,
    ⟨(some 7), .op (.len false (.tmp 6)), none⟩,
    ⟨(some 8), .op (.bin .sub (.tmp 5) (.tmp 7)), none⟩,
    ⟨(some 1), .op (.mv (.tmp 8)), none⟩]) (.kill [0, 5, 6, 7, 8]))
  (.seq (.seq (.post (.reg [⟨(some 9), .op (.mv (.tmp 1)), none⟩,
    ⟨(some 10), .op (.bin .lss (.tmp 9) (.const (Value.int .i64 0))), none⟩]) (.kill [9]))
  (.cond (.tmp 10) (.ghost (.kill [1, 10]) (.seq (.reg [⟨(some 4), .op (.mv (.const (Value.int .i64 (-1)))), none⟩])
  .ret))
  (.ghost (.kill [10]) .skip)))
  (.seq (.post (.reg [⟨(some 11), .op (.mv (.tmp 1)), none⟩,
    ⟨(some 4), .op (.mv (.tmp 11)), none⟩]) (.kill [1, 11]))
  .ret))))
theorem cf_laws_szInt64S : chkFn Try.prog i_laws_szInt64S ac_laws_szInt64S [.tmp 4] 12 = true := by decide +kernel
def fa_laws_szInt64S : FnA := ⟨ac_laws_szInt64S, [.tmp 4], 12, false, true, [], .any, none⟩

/-- The checked code of laws szBoolS. -/
def ac_laws_szBoolS : AC := (.seq (.post (.reg [⟨(some 4), .op (.mv (.const (Value.int .i64 0))), none⟩]) (.kill [4]))
  (.seq (.post (.reg [⟨(some 5), .op (.mv (.tmp 1)), none⟩,
    ⟨(some 6), .op (.mv (.tmp 0)), none⟩,
    ⟨(some 7), .op (.len false (.tmp 6)), none⟩,
    ⟨(some 8), .op (.bin .sub (.tmp 5) (.tmp 7)), none⟩,
    ⟨(some 1), .op (.mv (.tmp 8)), none⟩]) (.kill [0, 5, 6, 7, 8]))
  (.seq (.seq (.post (.reg [⟨(some 9), .op (.mv (.tmp 1)), none⟩,
    ⟨(some 10), .op (.bin .lss (.tmp 9) (.const (Value.int .i64 0))), none⟩]) (.kill [9]))
  (.cond (.tmp 10) (.ghost (.kill [1, 10]) (.seq (.reg [⟨(some 4), .op (.mv (.const (Value.int .i64 (-1)))), none⟩])
  .ret))
  (.ghost (.kill [10]) .skip)))
  (.seq (.post (.reg [⟨(some 11), .op (.mv (.tmp 1)), none⟩,
    ⟨(some 4), .op (.mv (.tmp 11)), none⟩]) (.kill [1, 11]))
  .ret))))
theorem cf_laws_szBoolS : chkFn Try.prog i_laws_szBoolS ac_laws_szBoolS [.tmp 4] 12 = true := by decide +kernel
def fa_laws_szBoolS : FnA := ⟨ac_laws_szBoolS, [.tmp 4], 12, false, true, [], .any, none⟩

/-- The checked code of laws szPushS. -/
def ac_laws_szPushS : AC := (.seq (.post (.reg [⟨(some 4), .op (.mv (.const (Value.int .i64 0))), none⟩]) (.kill [4]))
  (.seq (.post (.reg [⟨(some 5), .op (.mv (.tmp 1)), none⟩,
    ⟨(some 6), .op (.mv (.tmp 0)), none⟩,
    ⟨(some 7), .op (.len false (.tmp 6)), none⟩,
    ⟨(some 8), .op (.bin .sub (.tmp 5) (.tmp 7)), none⟩,
    ⟨(some 1), .op (.mv (.tmp 8)), none⟩]) (.kill [0, 5, 6, 7, 8]))
  (.seq (.seq (.post (.reg [⟨(some 9), .op (.mv (.tmp 1)), none⟩,
    ⟨(some 10), .op (.bin .lss (.tmp 9) (.const (Value.int .i64 0))), none⟩]) (.kill [9]))
  (.cond (.tmp 10) (.ghost (.kill [1, 10]) (.seq (.reg [⟨(some 4), .op (.mv (.const (Value.int .i64 (-1)))), none⟩])
  .ret))
  (.ghost (.kill [10]) .skip)))
  (.seq (.post (.reg [⟨(some 11), .op (.mv (.tmp 1)), none⟩,
    ⟨(some 4), .op (.mv (.tmp 11)), none⟩]) (.kill [1, 11]))
  .ret))))
theorem cf_laws_szPushS : chkFn Try.prog i_laws_szPushS ac_laws_szPushS [.tmp 4] 12 = true := by decide +kernel
def fa_laws_szPushS : FnA := ⟨ac_laws_szPushS, [.tmp 4], 12, false, true, [], .any, none⟩

/-- The checked code of laws szPushSS. -/
def lb_laws_szPushSS_0 : AC := (.seq (.seq (.post (.reg [⟨(some 12), .op (.mv (.tmp 5)), none⟩,
    ⟨(some 13), .op (.mv (.tmp 0)), none⟩,
    ⟨(some 14), .op (.len false (.tmp 13)), none⟩,
    ⟨(some 15), .op (.bin .lss (.tmp 12) (.tmp 14)), none⟩]) (.kill [12, 13, 14]))
  (.cond (.tmp 15) (.ghost (.kill [15]) .skip)
  (.ghost (.kill [0, 5, 15]) (.exit 0))))
  (.seq (.block 1 (.seq (.post (.reg [⟨(some 18), .op (.mv (.tmp 0)), none⟩,
    ⟨(some 19), .op (.mv (.tmp 5)), none⟩,
    ⟨(some 20), .op (.iaddrS (.tmp 18) (.tmp 19) 1), none⟩,
    ⟨(some 21), .op (.load 1 false (.tmp 20)), none⟩,
    ⟨(some 22), .op (.mv (.tmp 1)), none⟩,
    ⟨(some 23), .call (.func i_laws_szPushS) [(.tmp 21), (.tmp 22)], none⟩,
    ⟨(some 1), .op (.mv (.tmp 23)), none⟩]) (.kill [18, 19, 20, 21, 22, 23]))
  (.seq (.post (.reg [⟨(some 24), .op (.mv (.tmp 1)), none⟩,
    ⟨(some 25), .op (.bin .lss (.tmp 24) (.const (Value.int .i64 0))), none⟩]) (.kill [24]))
  (.cond (.tmp 25) (.ghost (.kill [0, 1, 5, 25]) (.seq (.reg [⟨(some 4), .op (.mv (.const (Value.int .i64 (-1)))), none⟩])
  .ret))
  (.ghost (.kill [25]) .skip)))))
  (.post (.reg [⟨(some 16), .op (.mv (.tmp 5)), none⟩,
    ⟨(some 17), .op (.bin .add (.tmp 16) (.const (Value.int .i64 1))), none⟩,
    ⟨(some 5), .op (.mv (.tmp 17)), none⟩]) (.kill [16, 17]))))
def lo_laws_szPushSS_0 : AC := (.loop lb_laws_szPushSS_0)
def ac_laws_szPushSS : AC := (.seq (.post (.reg [⟨(some 4), .op (.mv (.const (Value.int .i64 0))), none⟩]) (.kill [4]))
  (.seq (.post (.reg [⟨(some 6), .op (.mv (.tmp 1)), none⟩,
    ⟨(some 7), .op (.mv (.tmp 0)), none⟩,
    ⟨(some 8), .op (.len false (.tmp 7)), none⟩,
    ⟨(some 9), .op (.bin .sub (.tmp 6) (.tmp 8)), none⟩,
    ⟨(some 1), .op (.mv (.tmp 9)), none⟩]) (.kill [6, 7, 8, 9]))
  (.seq (.seq (.post (.reg [⟨(some 10), .op (.mv (.tmp 1)), none⟩,
    ⟨(some 11), .op (.bin .lss (.tmp 10) (.const (Value.int .i64 0))), none⟩]) (.kill [10]))
  (.cond (.tmp 11) (.ghost (.kill [0, 1, 11]) (.seq (.reg [⟨(some 4), .op (.mv (.const (Value.int .i64 (-1)))), none⟩])
  .ret))
  (.ghost (.kill [11]) .skip)))
  (.seq (.seq (.reg [⟨(some 5), .op (.mv (.const (Value.int .i64 0))), none⟩])
  (.block 0 lo_laws_szPushSS_0))
  (.ghost (.kill [0, 5]) (.seq (.post (.reg [⟨(some 26), .op (.mv (.tmp 1)), none⟩,
    ⟨(some 4), .op (.mv (.tmp 26)), none⟩]) (.kill [1, 26]))
  .ret))))))
theorem cf_laws_szPushSS : chkFn Try.prog i_laws_szPushSS ac_laws_szPushSS [.tmp 4] 27 = true := by decide +kernel
def fa_laws_szPushSS : FnA := ⟨ac_laws_szPushSS, [.tmp 4], 27, false, true, [], .any, none⟩

/-- The checked code of laws szPushSSS. -/
def lb_laws_szPushSSS_0 : AC := (.seq (.seq (.post (.reg [⟨(some 12), .op (.mv (.tmp 5)), none⟩,
    ⟨(some 13), .op (.mv (.tmp 0)), none⟩,
    ⟨(some 14), .op (.len false (.tmp 13)), none⟩,
    ⟨(some 15), .op (.bin .lss (.tmp 12) (.tmp 14)), none⟩]) (.kill [12, 13, 14]))
  (.cond (.tmp 15) (.ghost (.kill [15]) .skip)
  (.ghost (.kill [0, 5, 15]) (.exit 0))))
  (.seq (.block 1 (.seq (.post (.reg [⟨(some 18), .op (.mv (.tmp 0)), none⟩,
    ⟨(some 19), .op (.mv (.tmp 5)), none⟩,
    ⟨(some 20), .op (.iaddrS (.tmp 18) (.tmp 19) 1), none⟩,
    ⟨(some 21), .op (.load 1 false (.tmp 20)), none⟩,
    ⟨(some 22), .op (.mv (.tmp 1)), none⟩,
    ⟨(some 23), .call (.func i_laws_szPushSS) [(.tmp 21), (.tmp 22)], none⟩,
    ⟨(some 1), .op (.mv (.tmp 23)), none⟩]) (.kill [18, 19, 20, 21, 22, 23]))
  (.seq (.post (.reg [⟨(some 24), .op (.mv (.tmp 1)), none⟩,
    ⟨(some 25), .op (.bin .lss (.tmp 24) (.const (Value.int .i64 0))), none⟩]) (.kill [24]))
  (.cond (.tmp 25) (.ghost (.kill [0, 1, 5, 25]) (.seq (.reg [⟨(some 4), .op (.mv (.const (Value.int .i64 (-1)))), none⟩])
  .ret))
  (.ghost (.kill [25]) .skip)))))
  (.post (.reg [⟨(some 16), .op (.mv (.tmp 5)), none⟩,
    ⟨(some 17), .op (.bin .add (.tmp 16) (.const (Value.int .i64 1))), none⟩,
    ⟨(some 5), .op (.mv (.tmp 17)), none⟩]) (.kill [16, 17]))))
def lo_laws_szPushSSS_0 : AC := (.loop lb_laws_szPushSSS_0)
def ac_laws_szPushSSS : AC := (.seq (.post (.reg [⟨(some 4), .op (.mv (.const (Value.int .i64 0))), none⟩]) (.kill [4]))
  (.seq (.post (.reg [⟨(some 6), .op (.mv (.tmp 1)), none⟩,
    ⟨(some 7), .op (.mv (.tmp 0)), none⟩,
    ⟨(some 8), .op (.len false (.tmp 7)), none⟩,
    ⟨(some 9), .op (.bin .sub (.tmp 6) (.tmp 8)), none⟩,
    ⟨(some 1), .op (.mv (.tmp 9)), none⟩]) (.kill [6, 7, 8, 9]))
  (.seq (.seq (.post (.reg [⟨(some 10), .op (.mv (.tmp 1)), none⟩,
    ⟨(some 11), .op (.bin .lss (.tmp 10) (.const (Value.int .i64 0))), none⟩]) (.kill [10]))
  (.cond (.tmp 11) (.ghost (.kill [0, 1, 11]) (.seq (.reg [⟨(some 4), .op (.mv (.const (Value.int .i64 (-1)))), none⟩])
  .ret))
  (.ghost (.kill [11]) .skip)))
  (.seq (.seq (.reg [⟨(some 5), .op (.mv (.const (Value.int .i64 0))), none⟩])
  (.block 0 lo_laws_szPushSSS_0))
  (.ghost (.kill [0, 5]) (.seq (.post (.reg [⟨(some 26), .op (.mv (.tmp 1)), none⟩,
    ⟨(some 4), .op (.mv (.tmp 26)), none⟩]) (.kill [1, 26]))
  .ret))))))
theorem cf_laws_szPushSSS : chkFn Try.prog i_laws_szPushSSS ac_laws_szPushSSS [.tmp 4] 27 = true := by decide +kernel
def fa_laws_szPushSSS : FnA := ⟨ac_laws_szPushSSS, [.tmp 4], 27, false, true, [], .any, none⟩

/-- The checked code of laws szInt64SS. -/
def lb_laws_szInt64SS_0 : AC := (.seq (.seq (.post (.reg [⟨(some 12), .op (.mv (.tmp 5)), none⟩,
    ⟨(some 13), .op (.mv (.tmp 0)), none⟩,
    ⟨(some 14), .op (.len false (.tmp 13)), none⟩,
    ⟨(some 15), .op (.bin .lss (.tmp 12) (.tmp 14)), none⟩]) (.kill [12, 13, 14]))
  (.cond (.tmp 15) (.ghost (.kill [15]) .skip)
  (.ghost (.kill [0, 5, 15]) (.exit 0))))
  (.seq (.block 1 (.seq (.post (.reg [⟨(some 18), .op (.mv (.tmp 0)), none⟩,
    ⟨(some 19), .op (.mv (.tmp 5)), none⟩,
    ⟨(some 20), .op (.iaddrS (.tmp 18) (.tmp 19) 1), none⟩,
    ⟨(some 21), .op (.load 1 false (.tmp 20)), none⟩,
    ⟨(some 22), .op (.mv (.tmp 1)), none⟩,
    ⟨(some 23), .call (.func i_laws_szInt64S) [(.tmp 21), (.tmp 22)], none⟩,
    ⟨(some 1), .op (.mv (.tmp 23)), none⟩]) (.kill [18, 19, 20, 21, 22, 23]))
  (.seq (.post (.reg [⟨(some 24), .op (.mv (.tmp 1)), none⟩,
    ⟨(some 25), .op (.bin .lss (.tmp 24) (.const (Value.int .i64 0))), none⟩]) (.kill [24]))
  (.cond (.tmp 25) (.ghost (.kill [0, 1, 5, 25]) (.seq (.reg [⟨(some 4), .op (.mv (.const (Value.int .i64 (-1)))), none⟩])
  .ret))
  (.ghost (.kill [25]) .skip)))))
  (.post (.reg [⟨(some 16), .op (.mv (.tmp 5)), none⟩,
    ⟨(some 17), .op (.bin .add (.tmp 16) (.const (Value.int .i64 1))), none⟩,
    ⟨(some 5), .op (.mv (.tmp 17)), none⟩]) (.kill [16, 17]))))
def lo_laws_szInt64SS_0 : AC := (.loop lb_laws_szInt64SS_0)
def ac_laws_szInt64SS : AC := (.seq (.post (.reg [⟨(some 4), .op (.mv (.const (Value.int .i64 0))), none⟩]) (.kill [4]))
  (.seq (.post (.reg [⟨(some 6), .op (.mv (.tmp 1)), none⟩,
    ⟨(some 7), .op (.mv (.tmp 0)), none⟩,
    ⟨(some 8), .op (.len false (.tmp 7)), none⟩,
    ⟨(some 9), .op (.bin .sub (.tmp 6) (.tmp 8)), none⟩,
    ⟨(some 1), .op (.mv (.tmp 9)), none⟩]) (.kill [6, 7, 8, 9]))
  (.seq (.seq (.post (.reg [⟨(some 10), .op (.mv (.tmp 1)), none⟩,
    ⟨(some 11), .op (.bin .lss (.tmp 10) (.const (Value.int .i64 0))), none⟩]) (.kill [10]))
  (.cond (.tmp 11) (.ghost (.kill [0, 1, 11]) (.seq (.reg [⟨(some 4), .op (.mv (.const (Value.int .i64 (-1)))), none⟩])
  .ret))
  (.ghost (.kill [11]) .skip)))
  (.seq (.seq (.reg [⟨(some 5), .op (.mv (.const (Value.int .i64 0))), none⟩])
  (.block 0 lo_laws_szInt64SS_0))
  (.ghost (.kill [0, 5]) (.seq (.post (.reg [⟨(some 26), .op (.mv (.tmp 1)), none⟩,
    ⟨(some 4), .op (.mv (.tmp 26)), none⟩]) (.kill [1, 26]))
  .ret))))))
theorem cf_laws_szInt64SS : chkFn Try.prog i_laws_szInt64SS ac_laws_szInt64SS [.tmp 4] 27 = true := by decide +kernel
def fa_laws_szInt64SS : FnA := ⟨ac_laws_szInt64SS, [.tmp 4], 27, false, true, [], .any, none⟩

/-- The checked code of laws szInt64SSS. -/
def lb_laws_szInt64SSS_0 : AC := (.seq (.seq (.post (.reg [⟨(some 12), .op (.mv (.tmp 5)), none⟩,
    ⟨(some 13), .op (.mv (.tmp 0)), none⟩,
    ⟨(some 14), .op (.len false (.tmp 13)), none⟩,
    ⟨(some 15), .op (.bin .lss (.tmp 12) (.tmp 14)), none⟩]) (.kill [12, 13, 14]))
  (.cond (.tmp 15) (.ghost (.kill [15]) .skip)
  (.ghost (.kill [0, 5, 15]) (.exit 0))))
  (.seq (.block 1 (.seq (.post (.reg [⟨(some 18), .op (.mv (.tmp 0)), none⟩,
    ⟨(some 19), .op (.mv (.tmp 5)), none⟩,
    ⟨(some 20), .op (.iaddrS (.tmp 18) (.tmp 19) 1), none⟩,
    ⟨(some 21), .op (.load 1 false (.tmp 20)), none⟩,
    ⟨(some 22), .op (.mv (.tmp 1)), none⟩,
    ⟨(some 23), .call (.func i_laws_szInt64SS) [(.tmp 21), (.tmp 22)], none⟩,
    ⟨(some 1), .op (.mv (.tmp 23)), none⟩]) (.kill [18, 19, 20, 21, 22, 23]))
  (.seq (.post (.reg [⟨(some 24), .op (.mv (.tmp 1)), none⟩,
    ⟨(some 25), .op (.bin .lss (.tmp 24) (.const (Value.int .i64 0))), none⟩]) (.kill [24]))
  (.cond (.tmp 25) (.ghost (.kill [0, 1, 5, 25]) (.seq (.reg [⟨(some 4), .op (.mv (.const (Value.int .i64 (-1)))), none⟩])
  .ret))
  (.ghost (.kill [25]) .skip)))))
  (.post (.reg [⟨(some 16), .op (.mv (.tmp 5)), none⟩,
    ⟨(some 17), .op (.bin .add (.tmp 16) (.const (Value.int .i64 1))), none⟩,
    ⟨(some 5), .op (.mv (.tmp 17)), none⟩]) (.kill [16, 17]))))
def lo_laws_szInt64SSS_0 : AC := (.loop lb_laws_szInt64SSS_0)
def ac_laws_szInt64SSS : AC := (.seq (.post (.reg [⟨(some 4), .op (.mv (.const (Value.int .i64 0))), none⟩]) (.kill [4]))
  (.seq (.post (.reg [⟨(some 6), .op (.mv (.tmp 1)), none⟩,
    ⟨(some 7), .op (.mv (.tmp 0)), none⟩,
    ⟨(some 8), .op (.len false (.tmp 7)), none⟩,
    ⟨(some 9), .op (.bin .sub (.tmp 6) (.tmp 8)), none⟩,
    ⟨(some 1), .op (.mv (.tmp 9)), none⟩]) (.kill [6, 7, 8, 9]))
  (.seq (.seq (.post (.reg [⟨(some 10), .op (.mv (.tmp 1)), none⟩,
    ⟨(some 11), .op (.bin .lss (.tmp 10) (.const (Value.int .i64 0))), none⟩]) (.kill [10]))
  (.cond (.tmp 11) (.ghost (.kill [0, 1, 11]) (.seq (.reg [⟨(some 4), .op (.mv (.const (Value.int .i64 (-1)))), none⟩])
  .ret))
  (.ghost (.kill [11]) .skip)))
  (.seq (.seq (.reg [⟨(some 5), .op (.mv (.const (Value.int .i64 0))), none⟩])
  (.block 0 lo_laws_szInt64SSS_0))
  (.ghost (.kill [0, 5]) (.seq (.post (.reg [⟨(some 26), .op (.mv (.tmp 1)), none⟩,
    ⟨(some 4), .op (.mv (.tmp 26)), none⟩]) (.kill [1, 26]))
  .ret))))))
theorem cf_laws_szInt64SSS : chkFn Try.prog i_laws_szInt64SSS ac_laws_szInt64SSS [.tmp 4] 27 = true := by decide +kernel
def fa_laws_szInt64SSS : FnA := ⟨ac_laws_szInt64SSS, [.tmp 4], 27, false, true, [], .any, none⟩

/-- The checked code of laws szInt64SSSS. -/
def lb_laws_szInt64SSSS_0 : AC := (.seq (.seq (.post (.reg [⟨(some 12), .op (.mv (.tmp 5)), none⟩,
    ⟨(some 13), .op (.mv (.tmp 0)), none⟩,
    ⟨(some 14), .op (.len false (.tmp 13)), none⟩,
    ⟨(some 15), .op (.bin .lss (.tmp 12) (.tmp 14)), none⟩]) (.kill [12, 13, 14]))
  (.cond (.tmp 15) (.ghost (.kill [15]) .skip)
  (.ghost (.kill [0, 5, 15]) (.exit 0))))
  (.seq (.block 1 (.seq (.post (.reg [⟨(some 18), .op (.mv (.tmp 0)), none⟩,
    ⟨(some 19), .op (.mv (.tmp 5)), none⟩,
    ⟨(some 20), .op (.iaddrS (.tmp 18) (.tmp 19) 1), none⟩,
    ⟨(some 21), .op (.load 1 false (.tmp 20)), none⟩,
    ⟨(some 22), .op (.mv (.tmp 1)), none⟩,
    ⟨(some 23), .call (.func i_laws_szInt64SSS) [(.tmp 21), (.tmp 22)], none⟩,
    ⟨(some 1), .op (.mv (.tmp 23)), none⟩]) (.kill [18, 19, 20, 21, 22, 23]))
  (.seq (.post (.reg [⟨(some 24), .op (.mv (.tmp 1)), none⟩,
    ⟨(some 25), .op (.bin .lss (.tmp 24) (.const (Value.int .i64 0))), none⟩]) (.kill [24]))
  (.cond (.tmp 25) (.ghost (.kill [0, 1, 5, 25]) (.seq (.reg [⟨(some 4), .op (.mv (.const (Value.int .i64 (-1)))), none⟩])
  .ret))
  (.ghost (.kill [25]) .skip)))))
  (.post (.reg [⟨(some 16), .op (.mv (.tmp 5)), none⟩,
    ⟨(some 17), .op (.bin .add (.tmp 16) (.const (Value.int .i64 1))), none⟩,
    ⟨(some 5), .op (.mv (.tmp 17)), none⟩]) (.kill [16, 17]))))
def lo_laws_szInt64SSSS_0 : AC := (.loop lb_laws_szInt64SSSS_0)
def ac_laws_szInt64SSSS : AC := (.seq (.post (.reg [⟨(some 4), .op (.mv (.const (Value.int .i64 0))), none⟩]) (.kill [4]))
  (.seq (.post (.reg [⟨(some 6), .op (.mv (.tmp 1)), none⟩,
    ⟨(some 7), .op (.mv (.tmp 0)), none⟩,
    ⟨(some 8), .op (.len false (.tmp 7)), none⟩,
    ⟨(some 9), .op (.bin .sub (.tmp 6) (.tmp 8)), none⟩,
    ⟨(some 1), .op (.mv (.tmp 9)), none⟩]) (.kill [6, 7, 8, 9]))
  (.seq (.seq (.post (.reg [⟨(some 10), .op (.mv (.tmp 1)), none⟩,
    ⟨(some 11), .op (.bin .lss (.tmp 10) (.const (Value.int .i64 0))), none⟩]) (.kill [10]))
  (.cond (.tmp 11) (.ghost (.kill [0, 1, 11]) (.seq (.reg [⟨(some 4), .op (.mv (.const (Value.int .i64 (-1)))), none⟩])
  .ret))
  (.ghost (.kill [11]) .skip)))
  (.seq (.seq (.reg [⟨(some 5), .op (.mv (.const (Value.int .i64 0))), none⟩])
  (.block 0 lo_laws_szInt64SSSS_0))
  (.ghost (.kill [0, 5]) (.seq (.post (.reg [⟨(some 26), .op (.mv (.tmp 1)), none⟩,
    ⟨(some 4), .op (.mv (.tmp 26)), none⟩]) (.kill [1, 26]))
  .ret))))))
theorem cf_laws_szInt64SSSS : chkFn Try.prog i_laws_szInt64SSSS ac_laws_szInt64SSSS [.tmp 4] 27 = true := by decide +kernel
def fa_laws_szInt64SSSS : FnA := ⟨ac_laws_szInt64SSSS, [.tmp 4], 27, false, true, [], .any, none⟩

/-- The checked code of laws szChoices. -/
def ac_laws_szChoices : AC := (.seq (.post (.reg [⟨(some 2), .op (.box true (.tmp 0)), none⟩,
    ⟨(some 4), .op (.mv (.const (Value.int .i64 0))), none⟩]) (.kill [0, 4]))
  (.seq (.post (.reg [⟨(some 5), .op (.faddr (.tmp 2) 1), none⟩,
    ⟨(some 6), .op (.load 1 false (.tmp 5)), none⟩,
    ⟨(some 7), .op (.mv (.tmp 1)), none⟩,
    ⟨(some 8), .call (.func i_laws_szInt64S) [(.tmp 6), (.tmp 7)], none⟩,
    ⟨(some 1), .op (.mv (.tmp 8)), none⟩]) (.kill [5, 6, 7, 8]))
  (.seq (.seq (.post (.reg [⟨(some 9), .op (.mv (.tmp 1)), none⟩,
    ⟨(some 10), .op (.bin .lss (.tmp 9) (.const (Value.int .i64 0))), none⟩]) (.kill [9]))
  (.cond (.tmp 10) (.ghost (.kill [1, 2, 10]) (.seq (.reg [⟨(some 4), .op (.mv (.const (Value.int .i64 (-1)))), none⟩])
  .ret))
  (.ghost (.kill [10]) .skip)))
  (.seq (.post (.reg [⟨(some 11), .op (.faddr (.tmp 2) 2), none⟩,
    ⟨(some 12), .op (.load 1 false (.tmp 11)), none⟩,
    ⟨(some 13), .op (.mv (.tmp 1)), none⟩,
    ⟨(some 14), .call (.func i_laws_szBoolS) [(.tmp 12), (.tmp 13)], none⟩,
    ⟨(some 1), .op (.mv (.tmp 14)), none⟩]) (.kill [11, 12, 13, 14]))
  (.seq (.seq (.post (.reg [⟨(some 15), .op (.mv (.tmp 1)), none⟩,
    ⟨(some 16), .op (.bin .lss (.tmp 15) (.const (Value.int .i64 0))), none⟩]) (.kill [15]))
  (.cond (.tmp 16) (.ghost (.kill [1, 2, 16]) (.seq (.reg [⟨(some 4), .op (.mv (.const (Value.int .i64 (-1)))), none⟩])
  .ret))
  (.ghost (.kill [16]) .skip)))
  (.seq (.post (.reg [⟨(some 17), .op (.faddr (.tmp 2) 3), none⟩,
    ⟨(some 18), .op (.load 1 false (.tmp 17)), none⟩,
    ⟨(some 19), .op (.mv (.tmp 1)), none⟩,
    ⟨(some 20), .call (.func i_laws_szPushSSS) [(.tmp 18), (.tmp 19)], none⟩,
    ⟨(some 1), .op (.mv (.tmp 20)), none⟩]) (.kill [17, 18, 19, 20]))
  (.seq (.seq (.post (.reg [⟨(some 21), .op (.mv (.tmp 1)), none⟩,
    ⟨(some 22), .op (.bin .lss (.tmp 21) (.const (Value.int .i64 0))), none⟩]) (.kill [21]))
  (.cond (.tmp 22) (.ghost (.kill [1, 2, 22]) (.seq (.reg [⟨(some 4), .op (.mv (.const (Value.int .i64 (-1)))), none⟩])
  .ret))
  (.ghost (.kill [22]) .skip)))
  (.seq (.post (.reg [⟨(some 23), .op (.faddr (.tmp 2) 4), none⟩,
    ⟨(some 24), .op (.load 1 false (.tmp 23)), none⟩,
    ⟨(some 25), .op (.mv (.tmp 1)), none⟩,
    ⟨(some 26), .call (.func i_laws_szInt64SSSS) [(.tmp 24), (.tmp 25)], none⟩,
    ⟨(some 1), .op (.mv (.tmp 26)), none⟩]) (.kill [23, 24, 25, 26]))
  (.seq (.seq (.post (.reg [⟨(some 27), .op (.mv (.tmp 1)), none⟩,
    ⟨(some 28), .op (.bin .lss (.tmp 27) (.const (Value.int .i64 0))), none⟩]) (.kill [27]))
  (.cond (.tmp 28) (.ghost (.kill [1, 2, 28]) (.seq (.reg [⟨(some 4), .op (.mv (.const (Value.int .i64 (-1)))), none⟩])
  .ret))
  (.ghost (.kill [28]) .skip)))
  (.seq (.post (.reg [⟨(some 29), .op (.faddr (.tmp 2) 5), none⟩,
    ⟨(some 30), .op (.load 1 false (.tmp 29)), none⟩,
    ⟨(some 31), .op (.mv (.tmp 1)), none⟩,
    ⟨(some 32), .call (.func i_laws_szInt64SSS) [(.tmp 30), (.tmp 31)], none⟩,
    ⟨(some 1), .op (.mv (.tmp 32)), none⟩]) (.kill [2, 29, 30, 31, 32]))
  (.seq (.seq (.post (.reg [⟨(some 33), .op (.mv (.tmp 1)), none⟩,
    ⟨(some 34), .op (.bin .lss (.tmp 33) (.const (Value.int .i64 0))), none⟩]) (.kill [33]))
  (.cond (.tmp 34) (.ghost (.kill [1, 34]) (.seq (.reg [⟨(some 4), .op (.mv (.const (Value.int .i64 (-1)))), none⟩])
  .ret))
  (.ghost (.kill [34]) .skip)))
  (.seq (.post (.reg [⟨(some 35), .op (.mv (.tmp 1)), none⟩,
    ⟨(some 4), .op (.mv (.tmp 35)), none⟩]) (.kill [1, 35]))
  .ret))))))))))))
theorem cf_laws_szChoices : chkFn Try.prog i_laws_szChoices ac_laws_szChoices [.tmp 4] 36 = true := by decide +kernel
def fa_laws_szChoices : FnA := ⟨ac_laws_szChoices, [.tmp 4], 36, false, true, [], .any, none⟩

/-- The checked code of spec l00In. -/
def ac_spec_l00In : AC := (.seq (.post (.reg [⟨(some 6), .op (.mv (.const (Value.bool false))), none⟩]) (.kill [6]))
  (.seq (.post (.reg [⟨(some 7), .op (.mv (.tmp 0)), none⟩,
    ⟨(some 8), .op (.mv (.tmp 1)), none⟩,
    ⟨(some 9), .op (.bin .geq (.tmp 7) (.tmp 8)), none⟩,
    ⟨(some 10), .op (.mv (.tmp 9)), none⟩,
    ⟨(some 11), .op (.mv (.tmp 0)), some (10, true)⟩,
    ⟨(some 12), .op (.mv (.tmp 2)), some (10, true)⟩,
    ⟨(some 13), .op (.bin .leq (.tmp 11) (.tmp 12)), some (10, true)⟩,
    ⟨(some 14), .op (.pick (.tmp 10) (.tmp 13) (.const (Value.bool false))), none⟩,
    ⟨(some 6), .op (.mv (.tmp 14)), none⟩]) (.kill [0, 1, 2, 7, 8, 9, 10, 11, 12, 13, 14]))
  .ret))
theorem cf_spec_l00In : chkFn Try.prog i_spec_l00In ac_spec_l00In [.tmp 6] 15 = true := by decide +kernel
def fa_spec_l00In : FnA := ⟨ac_spec_l00In, [.tmp 6], 15, false, true, [], .any, none⟩

/-- The checked code of spec l00Rises. -/
def lb_spec_l00Rises_0 : AC := (.seq (.seq (.post (.reg [⟨(some 8), .op (.mv (.tmp 7)), none⟩,
    ⟨(some 9), .op (.mv (.tmp 0)), none⟩,
    ⟨(some 10), .op (.len false (.tmp 9)), none⟩,
    ⟨(some 11), .op (.bin .lss (.tmp 8) (.tmp 10)), none⟩]) (.kill [8, 9, 10]))
  (.cond (.tmp 11) (.ghost (.kill [11]) .skip)
  (.ghost (.kill [0, 1, 2, 7, 11]) (.exit 0))))
  (.seq (.block 1 (.seq (.post (.draw [⟨0, ⟨(some 14), .op (.mv (.tmp 0)), none⟩, []⟩,
    ⟨1, ⟨(some 15), .op (.mv (.tmp 7)), none⟩, []⟩,
    ⟨2, ⟨(some 16), .op (.iaddrS (.tmp 14) (.tmp 15) 1), none⟩, []⟩,
    ⟨3, ⟨(some 17), .op (.load 1 false (.tmp 16)), none⟩, []⟩,
    ⟨4, ⟨(some 18), .op (.mv (.tmp 1)), none⟩, []⟩,
    ⟨5, ⟨(some 19), .op (.mv (.tmp 2)), none⟩, []⟩,
    ⟨6, ⟨(some 20), .call (.func i_spec_l00In) [(.tmp 17), (.tmp 18), (.tmp 19)], none⟩, []⟩,
    ⟨7, ⟨(some 21), .op (.un .not (.tmp 20)), none⟩, []⟩,
    ⟨8, ⟨(some 22), .op (.mv (.tmp 21)), none⟩, []⟩,
    ⟨9, ⟨(some 23), .op (.mv (.tmp 7)), some (22, false)⟩, []⟩,
    ⟨10, ⟨(some 24), .op (.bin .gtr (.tmp 23) (.const (Value.int .i64 0))), some (22, false)⟩, []⟩,
    ⟨11, ⟨(some 25), .op (.mv (.tmp 24)), some (22, false)⟩, []⟩,
    ⟨12, ⟨(some 26), .op (.mv (.tmp 0)), some (25, true)⟩, []⟩,
    ⟨13, ⟨(some 27), .op (.mv (.tmp 7)), some (25, true)⟩, []⟩,
    ⟨14, ⟨(some 28), .op (.bin .sub (.tmp 27) (.const (Value.int .i64 1))), some (25, true)⟩, []⟩,
    ⟨15, ⟨(some 29), .op (.iaddrS (.tmp 26) (.tmp 28) 1), some (25, true)⟩, []⟩,
    ⟨16, ⟨(some 30), .op (.load 1 false (.tmp 29)), some (25, true)⟩, []⟩,
    ⟨17, ⟨(some 31), .op (.mv (.tmp 0)), some (25, true)⟩, []⟩,
    ⟨18, ⟨(some 32), .op (.mv (.tmp 7)), some (25, true)⟩, []⟩,
    ⟨19, ⟨(some 33), .op (.iaddrS (.tmp 31) (.tmp 32) 1), some (25, true)⟩, []⟩,
    ⟨20, ⟨(some 34), .op (.load 1 false (.tmp 33)), some (25, true)⟩, []⟩,
    ⟨21, ⟨(some 35), .op (.bin .geq (.tmp 30) (.tmp 34)), some (25, true)⟩, []⟩,
    ⟨22, ⟨(some 36), .op (.pick (.tmp 25) (.tmp 35) (.const (Value.bool false))), some (22, false)⟩, []⟩,
    ⟨23, ⟨(some 37), .op (.pick (.tmp 22) (.const (Value.bool true)) (.tmp 36)), none⟩, []⟩]
    [0, 0, 3, 7, 0, 0, 63, 127, 255, 511, 1023, 2047, 4095, 4095, 12287, 32767, 65535, 4095, 4095, 397311, 921599, 2097151, 4194303, 8388607]) (.kill [14, 15, 16, 17, 18, 19, 20, 21, 22, 23, 24, 25, 26, 27, 28, 29, 30, 31, 32, 33, 34, 35, 36]))
  (.cond (.tmp 37) (.ghost (.kill [0, 1, 2, 7, 37]) (.seq (.reg [⟨(some 6), .op (.mv (.const (Value.bool false))), none⟩])
  .ret))
  (.ghost (.kill [37]) .skip))))
  (.post (.reg [⟨(some 12), .op (.mv (.tmp 7)), none⟩,
    ⟨(some 13), .op (.bin .add (.tmp 12) (.const (Value.int .i64 1))), none⟩,
    ⟨(some 7), .op (.mv (.tmp 13)), none⟩]) (.kill [12, 13]))))
def lo_spec_l00Rises_0 : AC := (.loop lb_spec_l00Rises_0)
def ac_spec_l00Rises : AC := (.seq (.post (.reg [⟨(some 6), .op (.mv (.const (Value.bool false))), none⟩]) (.kill [6]))
  (.seq (.seq (.reg [⟨(some 7), .op (.mv (.const (Value.int .i64 0))), none⟩])
  (.block 0 lo_spec_l00Rises_0))
  (.ghost (.kill [0, 1, 2, 7]) (.seq (.reg [⟨(some 6), .op (.mv (.const (Value.bool true))), none⟩])
  .ret))))
theorem cf_spec_l00Rises : chkFn Try.prog i_spec_l00Rises ac_spec_l00Rises [.tmp 6] 38 = true := by decide +kernel
def fa_spec_l00Rises : FnA := ⟨ac_spec_l00Rises, [.tmp 6], 38, false, true, [], .any, none⟩

/-- The checked code of spec l03Pushes. -/
def lb_spec_l03Pushes_0 : AC := (.post (.seq (.seq (.post (.reg [⟨(some 9), .op (.mv (.tmp 7)), none⟩,
    ⟨(some 10), .op (.mv (.tmp 0)), none⟩,
    ⟨(some 11), .op (.len false (.tmp 10)), none⟩,
    ⟨(some 12), .op (.bin .lss (.tmp 9) (.tmp 11)), none⟩]) (.kill [9, 10, 11]))
  (.cond (.tmp 12) (.ghost (.kill [12]) .skip)
  (.ghost (.kill [0, 1, 2, 7, 12]) (.exit 0))))
  (.seq (.block 1 (.seq (.post (.reg [⟨(some 15), .op (.mv (.tmp 0)), none⟩,
    ⟨(some 16), .op (.mv (.tmp 7)), none⟩,
    ⟨(some 17), .op (.iaddrS (.tmp 15) (.tmp 16) 2), none⟩,
    ⟨(some 18), .op (.load 2 true (.tmp 17)), none⟩,
    ⟨(some 8), .op (.alloc (Value.agg #[Value.int .i64 0, Value.int .i64 0])), none⟩,
    ⟨none, .op (.store 2 (.tmp 8) (.tmp 18)), none⟩]) (.kill [15, 16, 17, 18]))
  (.seq (.seq (.post (.reg [⟨(some 19), .op (.faddr (.tmp 8) 0), none⟩,
    ⟨(some 20), .op (.load 1 false (.tmp 19)), none⟩,
    ⟨(some 21), .op (.mv (.tmp 1)), none⟩,
    ⟨(some 22), .op (.bin .sub (.tmp 21) (.const (Value.int .i64 1))), none⟩,
    ⟨(some 23), .call (.func i_spec_l00In) [(.tmp 20), (.const (Value.int .i64 0)), (.tmp 22)], none⟩,
    ⟨(some 24), .op (.un .not (.tmp 23)), none⟩,
    ⟨(some 25), .op (.mv (.tmp 24)), none⟩,
    ⟨(some 26), .op (.faddr (.tmp 8) 1), some (25, false)⟩,
    ⟨(some 27), .op (.load 1 false (.tmp 26)), some (25, false)⟩,
    ⟨(some 28), .op (.mv (.tmp 2)), some (25, false)⟩,
    ⟨(some 29), .op (.bin .sub (.tmp 28) (.const (Value.int .i64 1))), some (25, false)⟩,
    ⟨(some 30), .call (.func i_spec_l00In) [(.tmp 27), (.const (Value.int .i64 0)), (.tmp 29)], some (25, false)⟩,
    ⟨(some 31), .op (.un .not (.tmp 30)), some (25, false)⟩,
    ⟨(some 32), .op (.pick (.tmp 25) (.const (Value.bool true)) (.tmp 31)), none⟩]) (.kill [19, 20, 21, 22, 23, 24, 25, 26, 27, 28, 29, 30, 31]))
  (.cond (.tmp 32) (.ghost (.kill [0, 1, 2, 7, 8, 32]) (.seq (.reg [⟨(some 6), .op (.mv (.const (Value.bool false))), none⟩])
  .ret))
  (.ghost (.kill [32]) .skip)))
  (.seq (.post (.draw [⟨0, ⟨(some 33), .op (.mv (.tmp 7)), none⟩, []⟩,
    ⟨1, ⟨(some 34), .op (.bin .gtr (.tmp 33) (.const (Value.int .i64 0))), none⟩, []⟩,
    ⟨2, ⟨(some 35), .op (.mv (.tmp 34)), none⟩, []⟩,
    ⟨3, ⟨(some 36), .op (.mv (.tmp 0)), some (35, true)⟩, []⟩,
    ⟨4, ⟨(some 37), .op (.mv (.tmp 7)), some (35, true)⟩, []⟩,
    ⟨5, ⟨(some 38), .op (.bin .sub (.tmp 37) (.const (Value.int .i64 1))), some (35, true)⟩, []⟩,
    ⟨6, ⟨(some 39), .op (.iaddrS (.tmp 36) (.tmp 38) 2), some (35, true)⟩, []⟩,
    ⟨7, ⟨(some 40), .op (.faddr (.tmp 39) 0), some (35, true)⟩, []⟩,
    ⟨8, ⟨(some 41), .op (.load 1 false (.tmp 40)), some (35, true)⟩, []⟩,
    ⟨9, ⟨(some 42), .op (.faddr (.tmp 8) 0), some (35, true)⟩, []⟩,
    ⟨10, ⟨(some 43), .op (.load 1 false (.tmp 42)), some (35, true)⟩, []⟩,
    ⟨11, ⟨(some 44), .op (.bin .gtr (.tmp 41) (.tmp 43)), some (35, true)⟩, []⟩,
    ⟨12, ⟨(some 45), .op (.mv (.tmp 44)), some (35, true)⟩, []⟩,
    ⟨13, ⟨(some 46), .op (.mv (.tmp 0)), some (45, false)⟩, []⟩,
    ⟨14, ⟨(some 47), .op (.mv (.tmp 7)), some (45, false)⟩, []⟩,
    ⟨15, ⟨(some 48), .op (.bin .sub (.tmp 47) (.const (Value.int .i64 1))), some (45, false)⟩, []⟩,
    ⟨16, ⟨(some 49), .op (.iaddrS (.tmp 46) (.tmp 48) 2), some (45, false)⟩, []⟩,
    ⟨17, ⟨(some 50), .op (.faddr (.tmp 49) 0), some (45, false)⟩, []⟩,
    ⟨18, ⟨(some 51), .op (.load 1 false (.tmp 50)), some (45, false)⟩, []⟩,
    ⟨19, ⟨(some 52), .op (.faddr (.tmp 8) 0), some (45, false)⟩, []⟩,
    ⟨20, ⟨(some 53), .op (.load 1 false (.tmp 52)), some (45, false)⟩, []⟩,
    ⟨21, ⟨(some 54), .op (.bin .eql (.tmp 51) (.tmp 53)), some (45, false)⟩, []⟩,
    ⟨22, ⟨(some 55), .op (.mv (.tmp 54)), some (45, false)⟩, []⟩,
    ⟨23, ⟨(some 56), .op (.mv (.tmp 0)), some (55, true)⟩, []⟩,
    ⟨24, ⟨(some 57), .op (.mv (.tmp 7)), some (55, true)⟩, []⟩,
    ⟨25, ⟨(some 58), .op (.bin .sub (.tmp 57) (.const (Value.int .i64 1))), some (55, true)⟩, []⟩,
    ⟨26, ⟨(some 59), .op (.iaddrS (.tmp 56) (.tmp 58) 2), some (55, true)⟩, []⟩,
    ⟨27, ⟨(some 60), .op (.faddr (.tmp 59) 1), some (55, true)⟩, []⟩,
    ⟨28, ⟨(some 61), .op (.load 1 false (.tmp 60)), some (55, true)⟩, []⟩,
    ⟨29, ⟨(some 62), .op (.faddr (.tmp 8) 1), some (55, true)⟩, []⟩,
    ⟨30, ⟨(some 63), .op (.load 1 false (.tmp 62)), some (55, true)⟩, []⟩,
    ⟨31, ⟨(some 64), .op (.bin .geq (.tmp 61) (.tmp 63)), some (55, true)⟩, []⟩,
    ⟨32, ⟨(some 65), .op (.pick (.tmp 55) (.tmp 64) (.const (Value.bool false))), some (45, false)⟩, []⟩,
    ⟨33, ⟨(some 66), .op (.pick (.tmp 45) (.const (Value.bool true)) (.tmp 65)), some (35, true)⟩, []⟩,
    ⟨34, ⟨(some 67), .op (.pick (.tmp 35) (.tmp 66) (.const (Value.bool false))), none⟩, []⟩]
    [0, 1, 3, 7, 7, 23, 63, 127, 255, 7, 519, 2047, 4095, 8191, 8191, 24575, 65535, 131071, 262143, 8191, 532479, 2097151, 4194303, 8388607, 8388607, 25165823, 67108863, 134217727, 268435455, 8388607, 545259519, 2147483647, 4294967295, 8589934591, 17179869183]) (.kill [8, 33, 34, 35, 36, 37, 38, 39, 40, 41, 42, 43, 44, 45, 46, 47, 48, 49, 50, 51, 52, 53, 54, 55, 56, 57, 58, 59, 60, 61, 62, 63, 64, 65, 66]))
  (.cond (.tmp 67) (.ghost (.kill [0, 1, 2, 7, 67]) (.seq (.reg [⟨(some 6), .op (.mv (.const (Value.bool false))), none⟩])
  .ret))
  (.ghost (.kill [67]) .skip))))))
  (.post (.reg [⟨(some 13), .op (.mv (.tmp 7)), none⟩,
    ⟨(some 14), .op (.bin .add (.tmp 13) (.const (Value.int .i64 1))), none⟩,
    ⟨(some 7), .op (.mv (.tmp 14)), none⟩]) (.kill [13, 14])))) .nv)
def lo_spec_l03Pushes_0 : AC := (.loop lb_spec_l03Pushes_0)
def ac_spec_l03Pushes : AC := (.seq (.post (.reg [⟨(some 6), .op (.mv (.const (Value.bool false))), none⟩]) (.kill [6]))
  (.seq (.seq (.reg [⟨(some 7), .op (.mv (.const (Value.int .i64 0))), none⟩])
  (.post (.block 0 (.ghost .nv lo_spec_l03Pushes_0)) .nv))
  (.ghost (.kill [0, 1, 2, 7]) (.seq (.reg [⟨(some 6), .op (.mv (.const (Value.bool true))), none⟩])
  .ret))))
theorem cf_spec_l03Pushes : chkFn Try.prog i_spec_l03Pushes ac_spec_l03Pushes [.tmp 6] 68 = true := by decide +kernel
def fa_spec_l03Pushes : FnA := ⟨ac_spec_l03Pushes, [.tmp 6], 68, false, true, [], .any, none⟩

/-- The checked code of spec l03Ok. -/
def lb_spec_l03Ok_0 : AC := (.seq (.seq (.post (.reg [⟨(some 152), .op (.mv (.tmp 6)), none⟩,
    ⟨(some 153), .op (.mv (.tmp 0)), none⟩,
    ⟨(some 154), .op (.nilc (.tmp 153)), none⟩,
    ⟨(some 155), .op (.faddr (.tmp 154) 4), none⟩,
    ⟨(some 156), .op (.load 1 false (.tmp 155)), none⟩,
    ⟨(some 157), .op (.mv (.tmp 4)), none⟩,
    ⟨(some 158), .op (.iaddrS (.tmp 156) (.tmp 157) 1), none⟩,
    ⟨(some 159), .op (.load 1 false (.tmp 158)), none⟩,
    ⟨(some 160), .op (.mv (.tmp 5)), none⟩,
    ⟨(some 161), .op (.iaddrS (.tmp 159) (.tmp 160) 1), none⟩,
    ⟨(some 162), .op (.load 1 false (.tmp 161)), none⟩,
    ⟨(some 163), .op (.len false (.tmp 162)), none⟩,
    ⟨(some 164), .op (.bin .lss (.tmp 152) (.tmp 163)), none⟩]) (.kill [152, 153, 154, 155, 156, 157, 158, 159, 160, 161, 162, 163]))
  (.cond (.tmp 164) (.ghost (.kill [164]) .skip)
  (.ghost (.kill [6, 164]) (.exit 4))))
  (.seq (.block 5 (.seq (.post (.reg [⟨(some 167), .op (.mv (.tmp 0)), none⟩,
    ⟨(some 168), .op (.nilc (.tmp 167)), none⟩,
    ⟨(some 169), .op (.faddr (.tmp 168) 4), none⟩,
    ⟨(some 170), .op (.load 1 false (.tmp 169)), none⟩,
    ⟨(some 171), .op (.mv (.tmp 4)), none⟩,
    ⟨(some 172), .op (.iaddrS (.tmp 170) (.tmp 171) 1), none⟩,
    ⟨(some 173), .op (.load 1 false (.tmp 172)), none⟩,
    ⟨(some 174), .op (.mv (.tmp 5)), none⟩,
    ⟨(some 175), .op (.iaddrS (.tmp 173) (.tmp 174) 1), none⟩,
    ⟨(some 176), .op (.load 1 false (.tmp 175)), none⟩,
    ⟨(some 177), .op (.mv (.tmp 6)), none⟩,
    ⟨(some 178), .op (.iaddrS (.tmp 176) (.tmp 177) 1), none⟩,
    ⟨(some 179), .op (.load 1 false (.tmp 178)), none⟩,
    ⟨(some 180), .op (.mv (.tmp 3)), none⟩,
    ⟨(some 181), .op (.bin .sub (.tmp 180) (.const (Value.int .i64 1))), none⟩,
    ⟨(some 182), .call (.func i_spec_l00Rises) [(.tmp 179), (.const (Value.int .i64 0)), (.tmp 181)], none⟩,
    ⟨(some 183), .op (.un .not (.tmp 182)), none⟩]) (.kill [167, 168, 169, 170, 171, 172, 173, 174, 175, 176, 177, 178, 179, 180, 181, 182]))
  (.cond (.tmp 183) (.ghost (.kill [0, 3, 4, 5, 6, 183]) (.seq (.reg [⟨(some 2), .op (.mv (.const (Value.bool false))), none⟩])
  .ret))
  (.ghost (.kill [183]) .skip))))
  (.post (.reg [⟨(some 165), .op (.mv (.tmp 6)), none⟩,
    ⟨(some 166), .op (.bin .add (.tmp 165) (.const (Value.int .i64 1))), none⟩,
    ⟨(some 6), .op (.mv (.tmp 166)), none⟩]) (.kill [165, 166]))))
def lo_spec_l03Ok_0 : AC := (.loop lb_spec_l03Ok_0)
def lb_spec_l03Ok_1 : AC := (.seq (.seq (.post (.reg [⟨(some 96), .op (.mv (.tmp 5)), none⟩,
    ⟨(some 97), .op (.bin .lss (.tmp 96) (.const (Value.int .i64 2))), none⟩]) (.kill [96]))
  (.cond (.tmp 97) (.ghost (.kill [97]) .skip)
  (.ghost (.kill [5, 97]) (.exit 2))))
  (.seq (.block 3 (.seq (.seq (.post (.draw [⟨0, ⟨(some 100), .op (.mv (.tmp 0)), none⟩, []⟩,
    ⟨1, ⟨(some 101), .op (.nilc (.tmp 100)), none⟩, []⟩,
    ⟨2, ⟨(some 102), .op (.faddr (.tmp 101) 3), none⟩, []⟩,
    ⟨3, ⟨(some 103), .op (.load 1 false (.tmp 102)), none⟩, []⟩,
    ⟨4, ⟨(some 104), .op (.mv (.tmp 4)), none⟩, []⟩,
    ⟨5, ⟨(some 105), .op (.iaddrS (.tmp 103) (.tmp 104) 1), none⟩, []⟩,
    ⟨6, ⟨(some 106), .op (.load 1 false (.tmp 105)), none⟩, []⟩,
    ⟨7, ⟨(some 107), .op (.mv (.tmp 5)), none⟩, []⟩,
    ⟨8, ⟨(some 108), .op (.iaddrS (.tmp 106) (.tmp 107) 1), none⟩, []⟩,
    ⟨9, ⟨(some 109), .op (.load 1 false (.tmp 108)), none⟩, []⟩,
    ⟨10, ⟨(some 110), .op (.mv (.tmp 3)), none⟩, []⟩,
    ⟨11, ⟨(some 111), .op (.mv (.tmp 0)), none⟩, []⟩,
    ⟨12, ⟨(some 112), .op (.nilc (.tmp 111)), none⟩, []⟩,
    ⟨13, ⟨(some 113), .op (.faddr (.tmp 112) 0), none⟩, []⟩,
    ⟨14, ⟨(some 114), .op (.load 1 false (.tmp 113)), none⟩, []⟩,
    ⟨15, ⟨(some 115), .call (.func i_spec_l03Pushes) [(.tmp 109), (.tmp 110), (.tmp 114)], none⟩, []⟩,
    ⟨16, ⟨(some 116), .op (.un .not (.tmp 115)), none⟩, []⟩,
    ⟨17, ⟨(some 117), .op (.mv (.tmp 116)), none⟩, []⟩,
    ⟨18, ⟨(some 118), .op (.mv (.tmp 0)), some (117, false)⟩, []⟩,
    ⟨19, ⟨(some 119), .op (.nilc (.tmp 118)), some (117, false)⟩, []⟩,
    ⟨20, ⟨(some 120), .op (.faddr (.tmp 119) 5), some (117, false)⟩, []⟩,
    ⟨21, ⟨(some 121), .op (.load 1 false (.tmp 120)), some (117, false)⟩, []⟩,
    ⟨22, ⟨(some 122), .op (.mv (.tmp 4)), some (117, false)⟩, []⟩,
    ⟨23, ⟨(some 123), .op (.iaddrS (.tmp 121) (.tmp 122) 1), some (117, false)⟩, []⟩,
    ⟨24, ⟨(some 124), .op (.load 1 false (.tmp 123)), some (117, false)⟩, []⟩,
    ⟨25, ⟨(some 125), .op (.mv (.tmp 5)), some (117, false)⟩, []⟩,
    ⟨26, ⟨(some 126), .op (.iaddrS (.tmp 124) (.tmp 125) 1), some (117, false)⟩, []⟩,
    ⟨27, ⟨(some 127), .op (.load 1 false (.tmp 126)), some (117, false)⟩, []⟩,
    ⟨28, ⟨(some 128), .op (.mv (.tmp 3)), some (117, false)⟩, []⟩,
    ⟨29, ⟨(some 129), .op (.bin .sub (.tmp 128) (.const (Value.int .i64 1))), some (117, false)⟩, []⟩,
    ⟨30, ⟨(some 130), .call (.func i_spec_l00Rises) [(.tmp 127), (.const (Value.int .i64 0)), (.tmp 129)], some (117, false)⟩, []⟩,
    ⟨31, ⟨(some 131), .op (.un .not (.tmp 130)), some (117, false)⟩, []⟩,
    ⟨32, ⟨(some 132), .op (.pick (.tmp 117) (.const (Value.bool true)) (.tmp 131)), none⟩, []⟩,
    ⟨33, ⟨(some 133), .op (.mv (.tmp 132)), none⟩, []⟩,
    ⟨34, ⟨(some 134), .op (.mv (.tmp 0)), some (133, false)⟩, []⟩,
    ⟨35, ⟨(some 135), .op (.nilc (.tmp 134)), some (133, false)⟩, []⟩,
    ⟨36, ⟨(some 136), .op (.faddr (.tmp 135) 4), some (133, false)⟩, []⟩,
    ⟨37, ⟨(some 137), .op (.load 1 false (.tmp 136)), some (133, false)⟩, []⟩,
    ⟨38, ⟨(some 138), .op (.mv (.tmp 4)), some (133, false)⟩, []⟩,
    ⟨39, ⟨(some 139), .op (.iaddrS (.tmp 137) (.tmp 138) 1), some (133, false)⟩, []⟩,
    ⟨40, ⟨(some 140), .op (.load 1 false (.tmp 139)), some (133, false)⟩, []⟩,
    ⟨41, ⟨(some 141), .op (.mv (.tmp 5)), some (133, false)⟩, []⟩,
    ⟨42, ⟨(some 142), .op (.iaddrS (.tmp 140) (.tmp 141) 1), some (133, false)⟩, []⟩,
    ⟨43, ⟨(some 143), .op (.load 1 false (.tmp 142)), some (133, false)⟩, []⟩,
    ⟨44, ⟨(some 144), .op (.len false (.tmp 143)), some (133, false)⟩, []⟩,
    ⟨45, ⟨(some 145), .op (.mv (.tmp 0)), some (133, false)⟩, []⟩,
    ⟨46, ⟨(some 146), .op (.nilc (.tmp 145)), some (133, false)⟩, []⟩,
    ⟨47, ⟨(some 147), .op (.faddr (.tmp 146) 0), some (133, false)⟩, []⟩,
    ⟨48, ⟨(some 148), .op (.load 1 false (.tmp 147)), some (133, false)⟩, []⟩,
    ⟨49, ⟨(some 149), .op (.bin .add (.tmp 148) (.const (Value.int .i64 1))), some (133, false)⟩, []⟩,
    ⟨50, ⟨(some 150), .op (.bin .neq (.tmp 144) (.tmp 149)), some (133, false)⟩, []⟩,
    ⟨51, ⟨(some 151), .op (.pick (.tmp 133) (.const (Value.bool true)) (.tmp 150)), none⟩, []⟩]
    [0, 1, 3, 7, 0, 31, 63, 0, 255, 511, 0, 0, 2048, 6144, 14336, 32767, 65535, 131071, 262143, 524287, 1048575, 2097151, 262143, 8388607, 16777215, 262143, 67108863, 134217727, 262143, 268697599, 1073741823, 2147483647, 4294967295, 8589934591, 17179869183, 34359738367, 68719476735, 137438953471, 17179869183, 549755813887, 1099511627775, 17179869183, 4398046511103, 8796093022207, 17592186044415, 17179869183, 35201551958015, 105570296135679, 246307784491007, 527782761201663, 1125899906842623, 2251799813685247]) (.kill [100, 101, 102, 103, 104, 105, 106, 107, 108, 109, 110, 111, 112, 113, 114, 115, 116, 117, 118, 119, 120, 121, 122, 123, 124, 125, 126, 127, 128, 129, 130, 131, 132, 133, 134, 135, 136, 137, 138, 139, 140, 141, 142, 143, 144, 145, 146, 147, 148, 149, 150]))
  (.cond (.tmp 151) (.ghost (.kill [0, 3, 4, 5, 151]) (.seq (.reg [⟨(some 2), .op (.mv (.const (Value.bool false))), none⟩])
  .ret))
  (.ghost (.kill [151]) .skip)))
  (.seq (.reg [⟨(some 6), .op (.mv (.const (Value.int .i64 0))), none⟩])
  (.block 4 lo_spec_l03Ok_0))))
  (.ghost (.kill [6]) (.post (.reg [⟨(some 98), .op (.mv (.tmp 5)), none⟩,
    ⟨(some 99), .op (.bin .add (.tmp 98) (.const (Value.int .i64 1))), none⟩,
    ⟨(some 5), .op (.mv (.tmp 99)), none⟩]) (.kill [98, 99])))))
def lo_spec_l03Ok_1 : AC := (.loop lb_spec_l03Ok_1)
def lb_spec_l03Ok_2 : AC := (.seq (.seq (.post (.reg [⟨(some 60), .op (.mv (.tmp 4)), none⟩,
    ⟨(some 61), .op (.mv (.tmp 3)), none⟩,
    ⟨(some 62), .op (.bin .lss (.tmp 60) (.tmp 61)), none⟩]) (.kill [60, 61]))
  (.cond (.tmp 62) (.ghost (.kill [62]) .skip)
  (.ghost (.kill [0, 3, 4, 62]) (.exit 0))))
  (.seq (.block 1 (.seq (.seq (.post (.reg [⟨(some 65), .op (.mv (.tmp 0)), none⟩,
    ⟨(some 66), .op (.nilc (.tmp 65)), none⟩,
    ⟨(some 67), .op (.faddr (.tmp 66) 3), none⟩,
    ⟨(some 68), .op (.load 1 false (.tmp 67)), none⟩,
    ⟨(some 69), .op (.mv (.tmp 4)), none⟩,
    ⟨(some 70), .op (.iaddrS (.tmp 68) (.tmp 69) 1), none⟩,
    ⟨(some 71), .op (.load 1 false (.tmp 70)), none⟩,
    ⟨(some 72), .op (.len false (.tmp 71)), none⟩,
    ⟨(some 73), .op (.bin .neq (.tmp 72) (.const (Value.int .i64 2))), none⟩,
    ⟨(some 74), .op (.mv (.tmp 73)), none⟩,
    ⟨(some 75), .op (.mv (.tmp 0)), some (74, false)⟩,
    ⟨(some 76), .op (.nilc (.tmp 75)), some (74, false)⟩,
    ⟨(some 77), .op (.faddr (.tmp 76) 4), some (74, false)⟩,
    ⟨(some 78), .op (.load 1 false (.tmp 77)), some (74, false)⟩,
    ⟨(some 79), .op (.mv (.tmp 4)), some (74, false)⟩,
    ⟨(some 80), .op (.iaddrS (.tmp 78) (.tmp 79) 1), some (74, false)⟩,
    ⟨(some 81), .op (.load 1 false (.tmp 80)), some (74, false)⟩,
    ⟨(some 82), .op (.len false (.tmp 81)), some (74, false)⟩,
    ⟨(some 83), .op (.bin .neq (.tmp 82) (.const (Value.int .i64 2))), some (74, false)⟩,
    ⟨(some 84), .op (.pick (.tmp 74) (.const (Value.bool true)) (.tmp 83)), none⟩,
    ⟨(some 85), .op (.mv (.tmp 84)), none⟩,
    ⟨(some 86), .op (.mv (.tmp 0)), some (85, false)⟩,
    ⟨(some 87), .op (.nilc (.tmp 86)), some (85, false)⟩,
    ⟨(some 88), .op (.faddr (.tmp 87) 5), some (85, false)⟩,
    ⟨(some 89), .op (.load 1 false (.tmp 88)), some (85, false)⟩,
    ⟨(some 90), .op (.mv (.tmp 4)), some (85, false)⟩,
    ⟨(some 91), .op (.iaddrS (.tmp 89) (.tmp 90) 1), some (85, false)⟩,
    ⟨(some 92), .op (.load 1 false (.tmp 91)), some (85, false)⟩,
    ⟨(some 93), .op (.len false (.tmp 92)), some (85, false)⟩,
    ⟨(some 94), .op (.bin .neq (.tmp 93) (.const (Value.int .i64 2))), some (85, false)⟩,
    ⟨(some 95), .op (.pick (.tmp 85) (.const (Value.bool true)) (.tmp 94)), none⟩]) (.kill [65, 66, 67, 68, 69, 70, 71, 72, 73, 74, 75, 76, 77, 78, 79, 80, 81, 82, 83, 84, 85, 86, 87, 88, 89, 90, 91, 92, 93, 94]))
  (.cond (.tmp 95) (.ghost (.kill [0, 3, 4, 95]) (.seq (.reg [⟨(some 2), .op (.mv (.const (Value.bool false))), none⟩])
  .ret))
  (.ghost (.kill [95]) .skip)))
  (.seq (.reg [⟨(some 5), .op (.mv (.const (Value.int .i64 0))), none⟩])
  (.block 2 lo_spec_l03Ok_1))))
  (.ghost (.kill [5]) (.post (.reg [⟨(some 63), .op (.mv (.tmp 4)), none⟩,
    ⟨(some 64), .op (.bin .add (.tmp 63) (.const (Value.int .i64 1))), none⟩,
    ⟨(some 4), .op (.mv (.tmp 64)), none⟩]) (.kill [63, 64])))))
def lo_spec_l03Ok_2 : AC := (.loop lb_spec_l03Ok_2)
def ac_spec_l03Ok : AC := (.seq (.post (.reg [⟨(some 2), .op (.mv (.const (Value.bool false))), none⟩]) (.kill [2]))
  (.seq (.post (.reg [⟨(some 7), .op (.mv (.tmp 0)), none⟩,
    ⟨(some 8), .op (.nilc (.tmp 7)), none⟩,
    ⟨(some 9), .op (.faddr (.tmp 8) 2), none⟩,
    ⟨(some 10), .op (.load 1 false (.tmp 9)), none⟩,
    ⟨(some 11), .op (.len false (.tmp 10)), none⟩,
    ⟨(some 3), .op (.mv (.tmp 11)), none⟩]) (.kill [7, 8, 9, 10, 11]))
  (.seq (.seq (.post (.reg [⟨(some 12), .op (.mv (.tmp 3)), none⟩,
    ⟨(some 13), .call (.func i_spec_l00In) [(.tmp 12), (.const (Value.int .i64 1)), (.const (Value.int .i64 5))], none⟩,
    ⟨(some 14), .op (.un .not (.tmp 13)), none⟩,
    ⟨(some 15), .op (.mv (.tmp 14)), none⟩,
    ⟨(some 16), .op (.mv (.tmp 0)), some (15, false)⟩,
    ⟨(some 17), .op (.nilc (.tmp 16)), some (15, false)⟩,
    ⟨(some 18), .op (.faddr (.tmp 17) 0), some (15, false)⟩,
    ⟨(some 19), .op (.load 1 false (.tmp 18)), some (15, false)⟩,
    ⟨(some 20), .call (.func i_spec_l00In) [(.tmp 19), (.const (Value.int .i64 1)), (.const (Value.int .i64 4))], some (15, false)⟩,
    ⟨(some 21), .op (.un .not (.tmp 20)), some (15, false)⟩,
    ⟨(some 22), .op (.pick (.tmp 15) (.const (Value.bool true)) (.tmp 21)), none⟩,
    ⟨(some 23), .op (.mv (.tmp 22)), none⟩,
    ⟨(some 24), .op (.mv (.tmp 0)), some (23, false)⟩,
    ⟨(some 25), .op (.nilc (.tmp 24)), some (23, false)⟩,
    ⟨(some 26), .op (.faddr (.tmp 25) 1), some (23, false)⟩,
    ⟨(some 27), .op (.load 1 false (.tmp 26)), some (23, false)⟩,
    ⟨(some 28), .op (.mv (.tmp 3)), some (23, false)⟩,
    ⟨(some 29), .op (.bin .sub (.tmp 28) (.const (Value.int .i64 1))), some (23, false)⟩,
    ⟨(some 30), .call (.func i_spec_l00Rises) [(.tmp 27), (.const (Value.int .i64 0)), (.tmp 29)], some (23, false)⟩,
    ⟨(some 31), .op (.un .not (.tmp 30)), some (23, false)⟩,
    ⟨(some 32), .op (.pick (.tmp 23) (.const (Value.bool true)) (.tmp 31)), none⟩,
    ⟨(some 33), .op (.mv (.tmp 32)), none⟩,
    ⟨(some 34), .op (.mv (.tmp 0)), some (33, false)⟩,
    ⟨(some 35), .op (.nilc (.tmp 34)), some (33, false)⟩,
    ⟨(some 36), .op (.faddr (.tmp 35) 3), some (33, false)⟩,
    ⟨(some 37), .op (.load 1 false (.tmp 36)), some (33, false)⟩,
    ⟨(some 38), .op (.len false (.tmp 37)), some (33, false)⟩,
    ⟨(some 39), .op (.mv (.tmp 3)), some (33, false)⟩,
    ⟨(some 40), .op (.bin .neq (.tmp 38) (.tmp 39)), some (33, false)⟩,
    ⟨(some 41), .op (.pick (.tmp 33) (.const (Value.bool true)) (.tmp 40)), none⟩,
    ⟨(some 42), .op (.mv (.tmp 41)), none⟩,
    ⟨(some 43), .op (.mv (.tmp 0)), some (42, false)⟩,
    ⟨(some 44), .op (.nilc (.tmp 43)), some (42, false)⟩,
    ⟨(some 45), .op (.faddr (.tmp 44) 4), some (42, false)⟩,
    ⟨(some 46), .op (.load 1 false (.tmp 45)), some (42, false)⟩,
    ⟨(some 47), .op (.len false (.tmp 46)), some (42, false)⟩,
    ⟨(some 48), .op (.mv (.tmp 3)), some (42, false)⟩,
    ⟨(some 49), .op (.bin .neq (.tmp 47) (.tmp 48)), some (42, false)⟩,
    ⟨(some 50), .op (.pick (.tmp 42) (.const (Value.bool true)) (.tmp 49)), none⟩,
    ⟨(some 51), .op (.mv (.tmp 50)), none⟩,
    ⟨(some 52), .op (.mv (.tmp 0)), some (51, false)⟩,
    ⟨(some 53), .op (.nilc (.tmp 52)), some (51, false)⟩,
    ⟨(some 54), .op (.faddr (.tmp 53) 5), some (51, false)⟩,
    ⟨(some 55), .op (.load 1 false (.tmp 54)), some (51, false)⟩,
    ⟨(some 56), .op (.len false (.tmp 55)), some (51, false)⟩,
    ⟨(some 57), .op (.mv (.tmp 3)), some (51, false)⟩,
    ⟨(some 58), .op (.bin .neq (.tmp 56) (.tmp 57)), some (51, false)⟩,
    ⟨(some 59), .op (.pick (.tmp 51) (.const (Value.bool true)) (.tmp 58)), none⟩]) (.kill [12, 13, 14, 15, 16, 17, 18, 19, 20, 21, 22, 23, 24, 25, 26, 27, 28, 29, 30, 31, 32, 33, 34, 35, 36, 37, 38, 39, 40, 41, 42, 43, 44, 45, 46, 47, 48, 49, 50, 51, 52, 53, 54, 55, 56, 57, 58]))
  (.cond (.tmp 59) (.ghost (.kill [0, 3, 59]) (.seq (.reg [⟨(some 2), .op (.mv (.const (Value.bool false))), none⟩])
  .ret))
  (.ghost (.kill [59]) .skip)))
  (.seq (.seq (.reg [⟨(some 4), .op (.mv (.const (Value.int .i64 0))), none⟩])
  (.block 0 lo_spec_l03Ok_2))
  (.ghost (.kill [0, 3, 4]) (.seq (.reg [⟨(some 2), .op (.mv (.const (Value.bool true))), none⟩])
  .ret))))))
theorem cf_spec_l03Ok : chkFn Try.prog i_spec_l03Ok ac_spec_l03Ok [.tmp 2] 184 = true := by decide +kernel
def fa_spec_l03Ok : FnA := ⟨ac_spec_l03Ok, [.tmp 2], 184, false, true, [(.fp [.any, (.lst 1 .any), (.lst 1 .any), (.lst 1 (.lst 1 (.lst 2 .any))), (.lst 1 (.lst 1 (.lst 1 (.lst 1 .any)))), (.lst 1 (.lst 1 (.lst 1 .any)))])], .any, none⟩

/-- The checked code of spec l03Raised. -/
def lb_spec_l03Raised_0 : AC := (.seq (.seq (.post (.reg [⟨(some 8), .op (.mv (.tmp 6)), none⟩,
    ⟨(some 9), .op (.mv (.tmp 0)), none⟩,
    ⟨(some 10), .op (.len false (.tmp 9)), none⟩,
    ⟨(some 11), .op (.bin .lss (.tmp 8) (.tmp 10)), none⟩]) (.kill [8, 9, 10]))
  (.cond (.tmp 11) (.ghost (.kill [11]) .skip)
  (.ghost (.kill [0, 1, 6, 11]) (.exit 0))))
  (.seq (.block 1 (.post (.reg [⟨(some 14), .op (.mv (.tmp 5)), none⟩,
    ⟨(some 15), .op (.mv (.tmp 0)), none⟩,
    ⟨(some 16), .op (.mv (.tmp 6)), none⟩,
    ⟨(some 17), .op (.iaddrS (.tmp 15) (.tmp 16) 1), none⟩,
    ⟨(some 18), .op (.load 1 false (.tmp 17)), none⟩,
    ⟨(some 19), .op (.mv (.tmp 1)), none⟩,
    ⟨(some 20), .op (.bin .add (.tmp 18) (.tmp 19)), none⟩,
    ⟨(some 21), .op (.lits true 1 1 (Value.int .i64 0) [(0, (.tmp 20))]), none⟩,
    ⟨(some 22), .op (.append (.tmp 14) (.tmp 21) 1 8), none⟩,
    ⟨(some 5), .op (.mv (.tmp 22)), none⟩]) (.kill [14, 15, 16, 17, 18, 19, 20, 21, 22])))
  (.post (.reg [⟨(some 12), .op (.mv (.tmp 6)), none⟩,
    ⟨(some 13), .op (.bin .add (.tmp 12) (.const (Value.int .i64 1))), none⟩,
    ⟨(some 6), .op (.mv (.tmp 13)), none⟩]) (.kill [12, 13]))))
def lo_spec_l03Raised_0 : AC := (.loop lb_spec_l03Raised_0)
def ac_spec_l03Raised : AC := (.seq (.post (.reg [⟨(some 4), .op (.mv (.const (Value.slice none 0 0))), none⟩]) (.kill [4]))
  (.seq (.post (.reg [⟨(some 7), .op (.lits true 1 0 (Value.int .i64 0) []), none⟩,
    ⟨(some 5), .op (.mv (.tmp 7)), none⟩]) (.kill [7]))
  (.seq (.seq (.reg [⟨(some 6), .op (.mv (.const (Value.int .i64 0))), none⟩])
  (.block 0 (.ghost (.ow 5 none 1) lo_spec_l03Raised_0)))
  (.ghost (.kill [0, 1, 6]) (.seq (.post (.reg [⟨(some 23), .op (.mv (.tmp 5)), none⟩,
    ⟨(some 4), .op (.mv (.tmp 23)), none⟩]) (.kill [5, 23]))
  .ret)))))
theorem cf_spec_l03Raised : chkFn Try.prog i_spec_l03Raised ac_spec_l03Raised [.tmp 4] 24 = true := by decide +kernel
def fa_spec_l03Raised : FnA := ⟨ac_spec_l03Raised, [.tmp 4], 24, false, false, [], .any, none⟩

/-- The checked code of spec l03Part. -/
def lb_spec_l03Part_0 : AC := (.seq (.seq (.post (.reg [⟨(some 65), .op (.mv (.tmp 16)), none⟩,
    ⟨(some 66), .op (.mv (.tmp 1)), none⟩,
    ⟨(some 67), .op (.nilc (.tmp 66)), none⟩,
    ⟨(some 68), .op (.faddr (.tmp 67) 3), none⟩,
    ⟨(some 69), .op (.load 1 false (.tmp 68)), none⟩,
    ⟨(some 70), .op (.mv (.tmp 10)), none⟩,
    ⟨(some 71), .op (.iaddrS (.tmp 69) (.tmp 70) 1), none⟩,
    ⟨(some 72), .op (.load 1 false (.tmp 71)), none⟩,
    ⟨(some 73), .op (.mv (.tmp 14)), none⟩,
    ⟨(some 74), .op (.iaddrS (.tmp 72) (.tmp 73) 1), none⟩,
    ⟨(some 75), .op (.load 1 false (.tmp 74)), none⟩,
    ⟨(some 76), .op (.len false (.tmp 75)), none⟩,
    ⟨(some 77), .op (.bin .lss (.tmp 65) (.tmp 76)), none⟩]) (.kill [65, 66, 67, 68, 69, 70, 71, 72, 73, 74, 75, 76]))
  (.cond (.tmp 77) (.ghost (.kill [77]) .skip)
  (.ghost (.kill [16, 77]) (.exit 4))))
  (.seq (.block 5 (.seq (.post (.reg [⟨(some 80), .op (.mv (.tmp 1)), none⟩,
    ⟨(some 81), .op (.nilc (.tmp 80)), none⟩,
    ⟨(some 82), .op (.faddr (.tmp 81) 3), none⟩,
    ⟨(some 83), .op (.load 1 false (.tmp 82)), none⟩,
    ⟨(some 84), .op (.mv (.tmp 10)), none⟩,
    ⟨(some 85), .op (.iaddrS (.tmp 83) (.tmp 84) 1), none⟩,
    ⟨(some 86), .op (.load 1 false (.tmp 85)), none⟩,
    ⟨(some 87), .op (.mv (.tmp 14)), none⟩,
    ⟨(some 88), .op (.iaddrS (.tmp 86) (.tmp 87) 1), none⟩,
    ⟨(some 89), .op (.load 1 false (.tmp 88)), none⟩,
    ⟨(some 90), .op (.mv (.tmp 16)), none⟩,
    ⟨(some 91), .op (.iaddrS (.tmp 89) (.tmp 90) 2), none⟩,
    ⟨(some 92), .op (.load 2 true (.tmp 91)), none⟩,
    ⟨(some 17), .op (.alloc (Value.agg #[Value.int .i64 0, Value.int .i64 0])), none⟩,
    ⟨none, .op (.store 2 (.tmp 17) (.tmp 92)), none⟩]) (.kill [80, 81, 82, 83, 84, 85, 86, 87, 88, 89, 90, 91, 92]))
  (.post (.reg [⟨(some 93), .op (.mv (.tmp 15)), none⟩,
    ⟨(some 94), .op (.faddr (.tmp 17) 0), none⟩,
    ⟨(some 95), .op (.load 1 false (.tmp 94)), none⟩,
    ⟨(some 96), .op (.mv (.tmp 2)), none⟩,
    ⟨(some 97), .op (.bin .add (.tmp 95) (.tmp 96)), none⟩,
    ⟨(some 98), .op (.faddr (.tmp 17) 1), none⟩,
    ⟨(some 99), .op (.load 1 false (.tmp 98)), none⟩,
    ⟨(some 100), .op (.mv (.tmp 3)), none⟩,
    ⟨(some 101), .op (.bin .add (.tmp 99) (.tmp 100)), none⟩,
    ⟨(some 102), .op (.build [Value.int .i64 0, Value.int .i64 0] [(0, 1, (.tmp 97)), (1, 1, (.tmp 101))]), none⟩,
    ⟨(some 103), .op (.lits true 2 1 (Value.agg #[Value.int .i64 0, Value.int .i64 0]) [(0, (.tmp 102))]), none⟩,
    ⟨(some 104), .op (.append (.tmp 93) (.tmp 103) 2 16), none⟩,
    ⟨(some 15), .op (.mv (.tmp 104)), none⟩]) (.kill [17, 93, 94, 95, 96, 97, 98, 99, 100, 101, 102, 103, 104]))))
  (.post (.reg [⟨(some 78), .op (.mv (.tmp 16)), none⟩,
    ⟨(some 79), .op (.bin .add (.tmp 78) (.const (Value.int .i64 1))), none⟩,
    ⟨(some 16), .op (.mv (.tmp 79)), none⟩]) (.kill [78, 79]))))
def lo_spec_l03Part_0 : AC := (.loop lb_spec_l03Part_0)
def lb_spec_l03Part_1 : AC := (.seq (.seq (.post (.reg [⟨(some 110), .op (.mv (.tmp 19)), none⟩,
    ⟨(some 111), .op (.mv (.tmp 3)), none⟩,
    ⟨(some 112), .op (.bin .lss (.tmp 110) (.tmp 111)), none⟩]) (.kill [110, 111]))
  (.cond (.tmp 112) (.ghost (.kill [112]) .skip)
  (.ghost (.kill [19, 112]) (.exit 6))))
  (.seq (.block 7 (.post (.reg [⟨(some 115), .op (.mv (.tmp 18)), none⟩,
    ⟨(some 116), .op (.lits false 1 0 (Value.int .i64 0) []), none⟩,
    ⟨(some 117), .op (.lits true 1 1 (Value.slice none 0 0) [(0, (.tmp 116))]), none⟩,
    ⟨(some 118), .op (.append (.tmp 115) (.tmp 117) 1 24), none⟩,
    ⟨(some 18), .op (.mv (.tmp 118)), none⟩]) (.kill [115, 116, 117, 118])))
  (.post (.reg [⟨(some 113), .op (.mv (.tmp 19)), none⟩,
    ⟨(some 114), .op (.bin .add (.tmp 113) (.const (Value.int .i64 1))), none⟩,
    ⟨(some 19), .op (.mv (.tmp 114)), none⟩]) (.kill [113, 114]))))
def lo_spec_l03Part_1 : AC := (.loop lb_spec_l03Part_1)
def lb_spec_l03Part_2 : AC := (.seq (.seq (.post (.reg [⟨(some 119), .op (.mv (.tmp 20)), none⟩,
    ⟨(some 120), .op (.mv (.tmp 1)), none⟩,
    ⟨(some 121), .op (.nilc (.tmp 120)), none⟩,
    ⟨(some 122), .op (.faddr (.tmp 121) 0), none⟩,
    ⟨(some 123), .op (.load 1 false (.tmp 122)), none⟩,
    ⟨(some 124), .op (.bin .lss (.tmp 119) (.tmp 123)), none⟩]) (.kill [119, 120, 121, 122, 123]))
  (.cond (.tmp 124) (.ghost (.kill [124]) .skip)
  (.ghost (.kill [20, 124]) (.exit 8))))
  (.seq (.block 9 (.post (.reg [⟨(some 127), .op (.mv (.tmp 18)), none⟩,
    ⟨(some 128), .op (.mv (.tmp 1)), none⟩,
    ⟨(some 129), .op (.nilc (.tmp 128)), none⟩,
    ⟨(some 130), .op (.faddr (.tmp 129) 4), none⟩,
    ⟨(some 131), .op (.load 1 false (.tmp 130)), none⟩,
    ⟨(some 132), .op (.mv (.tmp 10)), none⟩,
    ⟨(some 133), .op (.iaddrS (.tmp 131) (.tmp 132) 1), none⟩,
    ⟨(some 134), .op (.load 1 false (.tmp 133)), none⟩,
    ⟨(some 135), .op (.mv (.tmp 14)), none⟩,
    ⟨(some 136), .op (.iaddrS (.tmp 134) (.tmp 135) 1), none⟩,
    ⟨(some 137), .op (.load 1 false (.tmp 136)), none⟩,
    ⟨(some 138), .op (.mv (.tmp 20)), none⟩,
    ⟨(some 139), .op (.iaddrS (.tmp 137) (.tmp 138) 1), none⟩,
    ⟨(some 140), .op (.load 1 false (.tmp 139)), none⟩,
    ⟨(some 141), .op (.mv (.tmp 2)), none⟩,
    ⟨(some 142), .call (.func i_spec_l03Raised) [(.tmp 140), (.tmp 141)], none⟩,
    ⟨(some 143), .op (.lits true 1 1 (Value.slice none 0 0) [(0, (.tmp 142))]), none⟩,
    ⟨(some 144), .op (.append (.tmp 127) (.tmp 143) 1 24), none⟩,
    ⟨(some 18), .op (.mv (.tmp 144)), none⟩]) (.kill [127, 128, 129, 130, 131, 132, 133, 134, 135, 136, 137, 138, 139, 140, 141, 142, 143, 144])))
  (.post (.reg [⟨(some 125), .op (.mv (.tmp 20)), none⟩,
    ⟨(some 126), .op (.bin .add (.tmp 125) (.const (Value.int .i64 1))), none⟩,
    ⟨(some 20), .op (.mv (.tmp 126)), none⟩]) (.kill [125, 126]))))
def lo_spec_l03Part_2 : AC := (.loop lb_spec_l03Part_2)
def lb_spec_l03Part_3 : AC := (.seq (.seq (.post (.reg [⟨(some 145), .op (.mv (.tmp 21)), none⟩,
    ⟨(some 146), .op (.mv (.tmp 4)), none⟩,
    ⟨(some 147), .op (.bin .lss (.tmp 145) (.tmp 146)), none⟩]) (.kill [145, 146]))
  (.cond (.tmp 147) (.ghost (.kill [147]) .skip)
  (.ghost (.kill [21, 147]) (.exit 10))))
  (.seq (.block 11 (.post (.reg [⟨(some 150), .op (.mv (.tmp 18)), none⟩,
    ⟨(some 151), .op (.lits false 1 0 (Value.int .i64 0) []), none⟩,
    ⟨(some 152), .op (.lits true 1 1 (Value.slice none 0 0) [(0, (.tmp 151))]), none⟩,
    ⟨(some 153), .op (.append (.tmp 150) (.tmp 152) 1 24), none⟩,
    ⟨(some 18), .op (.mv (.tmp 153)), none⟩]) (.kill [150, 151, 152, 153])))
  (.post (.reg [⟨(some 148), .op (.mv (.tmp 21)), none⟩,
    ⟨(some 149), .op (.bin .add (.tmp 148) (.const (Value.int .i64 1))), none⟩,
    ⟨(some 21), .op (.mv (.tmp 149)), none⟩]) (.kill [148, 149]))))
def lo_spec_l03Part_3 : AC := (.loop lb_spec_l03Part_3)
def lb_spec_l03Part_4 : AC := (.seq (.seq (.post (.reg [⟨(some 60), .op (.mv (.tmp 14)), none⟩,
    ⟨(some 61), .op (.bin .lss (.tmp 60) (.const (Value.int .i64 2))), none⟩]) (.kill [60]))
  (.cond (.tmp 61) (.ghost (.kill [61]) .skip)
  (.ghost (.kill [14, 61]) (.exit 2))))
  (.seq (.block 3 (.seq (.post (.reg [⟨(some 64), .op (.lits true 2 0 (Value.agg #[Value.int .i64 0, Value.int .i64 0]) []), none⟩,
    ⟨(some 15), .op (.mv (.tmp 64)), none⟩]) (.kill [64]))
  (.seq (.seq (.reg [⟨(some 16), .op (.mv (.const (Value.int .i64 0))), none⟩])
  (.block 4 (.ghost (.ow 11 none 1) (.ghost (.ow 12 none 1) (.ghost (.ow 13 none 1) (.ghost (.ow 15 none 2) (.ghost (.ow 0 (some 3) 1) (.ghost (.ow 0 (some 4) 1) (.ghost (.ow 0 (some 5) 1) lo_spec_l03Part_0)))))))))
  (.ghost (.kill [16]) (.seq (.post (.reg [⟨(some 105), .op (.mv (.tmp 11)), none⟩,
    ⟨(some 106), .op (.mv (.tmp 15)), none⟩,
    ⟨(some 107), .op (.lits true 1 1 (Value.slice none 0 0) [(0, (.tmp 106))]), none⟩,
    ⟨(some 108), .op (.append (.tmp 105) (.tmp 107) 1 24), none⟩,
    ⟨(some 11), .op (.mv (.tmp 108)), none⟩]) (.kill [15, 105, 106, 107, 108]))
  (.seq (.post (.reg [⟨(some 109), .op (.lits true 1 0 (Value.slice none 0 0) []), none⟩,
    ⟨(some 18), .op (.mv (.tmp 109)), none⟩]) (.kill [109]))
  (.seq (.seq (.reg [⟨(some 19), .op (.mv (.const (Value.int .i64 0))), none⟩])
  (.block 6 (.ghost (.ow 11 none 1) (.ghost (.ow 12 none 1) (.ghost (.ow 13 none 1) (.ghost (.ow 18 none 1) (.ghost (.ow 0 (some 3) 1) (.ghost (.ow 0 (some 4) 1) (.ghost (.ow 0 (some 5) 1) lo_spec_l03Part_1)))))))))
  (.ghost (.kill [19]) (.seq (.seq (.reg [⟨(some 20), .op (.mv (.const (Value.int .i64 0))), none⟩])
  (.block 8 (.ghost (.ow 11 none 1) (.ghost (.ow 12 none 1) (.ghost (.ow 13 none 1) (.ghost (.ow 18 none 1) (.ghost (.ow 0 (some 3) 1) (.ghost (.ow 0 (some 4) 1) (.ghost (.ow 0 (some 5) 1) lo_spec_l03Part_2)))))))))
  (.ghost (.kill [20]) (.seq (.seq (.reg [⟨(some 21), .op (.mv (.const (Value.int .i64 0))), none⟩])
  (.block 10 (.ghost (.ow 11 none 1) (.ghost (.ow 12 none 1) (.ghost (.ow 13 none 1) (.ghost (.ow 18 none 1) (.ghost (.ow 0 (some 3) 1) (.ghost (.ow 0 (some 4) 1) (.ghost (.ow 0 (some 5) 1) lo_spec_l03Part_3)))))))))
  (.ghost (.kill [21]) (.seq (.post (.draw [⟨0, ⟨(some 154), .op (.mv (.tmp 12)), none⟩, []⟩,
    ⟨1, ⟨(some 155), .op (.mv (.tmp 18)), none⟩, []⟩,
    ⟨2, ⟨(some 156), .op (.mv (.tmp 1)), none⟩, []⟩,
    ⟨3, ⟨(some 157), .op (.nilc (.tmp 156)), none⟩, []⟩,
    ⟨4, ⟨(some 158), .op (.faddr (.tmp 157) 4), none⟩, []⟩,
    ⟨5, ⟨(some 159), .op (.load 1 false (.tmp 158)), none⟩, []⟩,
    ⟨6, ⟨(some 160), .op (.mv (.tmp 10)), none⟩, []⟩,
    ⟨7, ⟨(some 161), .op (.iaddrS (.tmp 159) (.tmp 160) 1), none⟩, []⟩,
    ⟨8, ⟨(some 162), .op (.load 1 false (.tmp 161)), none⟩, []⟩,
    ⟨9, ⟨(some 163), .op (.mv (.tmp 14)), none⟩, []⟩,
    ⟨10, ⟨(some 164), .op (.iaddrS (.tmp 162) (.tmp 163) 1), none⟩, []⟩,
    ⟨11, ⟨(some 165), .op (.load 1 false (.tmp 164)), none⟩, []⟩,
    ⟨12, ⟨(some 166), .op (.mv (.tmp 1)), none⟩, []⟩,
    ⟨13, ⟨(some 167), .op (.nilc (.tmp 166)), none⟩, []⟩,
    ⟨14, ⟨(some 168), .op (.faddr (.tmp 167) 0), none⟩, []⟩,
    ⟨15, ⟨(some 169), .op (.load 1 false (.tmp 168)), none⟩, []⟩,
    ⟨16, ⟨(some 170), .op (.iaddrS (.tmp 165) (.tmp 169) 1), none⟩, []⟩,
    ⟨17, ⟨(some 171), .op (.load 1 false (.tmp 170)), none⟩, []⟩,
    ⟨18, ⟨(some 172), .op (.mv (.tmp 2)), none⟩, []⟩,
    ⟨19, ⟨(some 173), .call (.func i_spec_l03Raised) [(.tmp 171), (.tmp 172)], none⟩, []⟩,
    ⟨20, ⟨(some 174), .op (.lits true 1 1 (Value.slice none 0 0) [(0, (.tmp 173))]), none⟩, []⟩,
    ⟨21, ⟨(some 175), .op (.append (.tmp 155) (.tmp 174) 1 24), none⟩, []⟩,
    ⟨22, ⟨(some 176), .op (.lits true 1 1 (Value.slice none 0 0) [(0, (.tmp 175))]), none⟩, []⟩,
    ⟨23, ⟨(some 177), .op (.append (.tmp 154) (.tmp 176) 1 24), none⟩, []⟩,
    ⟨24, ⟨(some 12), .op (.mv (.tmp 177)), none⟩, []⟩]
    [0, 0, 0, 4, 12, 28, 0, 124, 252, 0, 1020, 2044, 0, 4096, 12288, 28672, 65532, 131068, 0, 524284, 1048572, 2097150, 4194302, 8388607, 16777215]) (.kill [18, 154, 155, 156, 157, 158, 159, 160, 161, 162, 163, 164, 165, 166, 167, 168, 169, 170, 171, 172, 173, 174, 175, 176, 177]))
  (.post (.reg [⟨(some 178), .op (.mv (.tmp 13)), none⟩,
    ⟨(some 179), .op (.mv (.tmp 1)), none⟩,
    ⟨(some 180), .op (.nilc (.tmp 179)), none⟩,
    ⟨(some 181), .op (.faddr (.tmp 180) 5), none⟩,
    ⟨(some 182), .op (.load 1 false (.tmp 181)), none⟩,
    ⟨(some 183), .op (.mv (.tmp 10)), none⟩,
    ⟨(some 184), .op (.iaddrS (.tmp 182) (.tmp 183) 1), none⟩,
    ⟨(some 185), .op (.load 1 false (.tmp 184)), none⟩,
    ⟨(some 186), .op (.mv (.tmp 14)), none⟩,
    ⟨(some 187), .op (.iaddrS (.tmp 185) (.tmp 186) 1), none⟩,
    ⟨(some 188), .op (.load 1 false (.tmp 187)), none⟩,
    ⟨(some 189), .op (.mv (.tmp 2)), none⟩,
    ⟨(some 190), .call (.func i_spec_l03Raised) [(.tmp 188), (.tmp 189)], none⟩,
    ⟨(some 191), .op (.lits true 1 1 (Value.slice none 0 0) [(0, (.tmp 190))]), none⟩,
    ⟨(some 192), .op (.append (.tmp 178) (.tmp 191) 1 24), none⟩,
    ⟨(some 13), .op (.mv (.tmp 192)), none⟩]) (.kill [178, 179, 180, 181, 182, 183, 184, 185, 186, 187, 188, 189, 190, 191, 192])))))))))))))))
  (.post (.reg [⟨(some 62), .op (.mv (.tmp 14)), none⟩,
    ⟨(some 63), .op (.bin .add (.tmp 62) (.const (Value.int .i64 1))), none⟩,
    ⟨(some 14), .op (.mv (.tmp 63)), none⟩]) (.kill [62, 63]))))
def lo_spec_l03Part_4 : AC := (.loop lb_spec_l03Part_4)
def lb_spec_l03Part_5 : AC := (.seq (.seq (.post (.reg [⟨(some 48), .op (.mv (.tmp 10)), none⟩,
    ⟨(some 49), .op (.mv (.tmp 1)), none⟩,
    ⟨(some 50), .op (.nilc (.tmp 49)), none⟩,
    ⟨(some 51), .op (.faddr (.tmp 50) 2), none⟩,
    ⟨(some 52), .op (.load 1 false (.tmp 51)), none⟩,
    ⟨(some 53), .op (.len false (.tmp 52)), none⟩,
    ⟨(some 54), .op (.bin .lss (.tmp 48) (.tmp 53)), none⟩]) (.kill [48, 49, 50, 51, 52, 53]))
  (.cond (.tmp 54) (.ghost (.kill [54]) .skip)
  (.ghost (.kill [0, 1, 2, 3, 4, 10, 54]) (.exit 0))))
  (.seq (.block 1 (.seq (.post (.reg [⟨(some 57), .op (.lits true 1 0 (Value.slice none 0 0) []), none⟩,
    ⟨(some 11), .op (.mv (.tmp 57)), none⟩]) (.kill [57]))
  (.seq (.post (.reg [⟨(some 58), .op (.lits true 1 0 (Value.slice none 0 0) []), none⟩,
    ⟨(some 12), .op (.mv (.tmp 58)), none⟩]) (.kill [58]))
  (.seq (.post (.reg [⟨(some 59), .op (.lits true 1 0 (Value.slice none 0 0) []), none⟩,
    ⟨(some 13), .op (.mv (.tmp 59)), none⟩]) (.kill [59]))
  (.seq (.seq (.reg [⟨(some 14), .op (.mv (.const (Value.int .i64 0))), none⟩])
  (.block 2 (.ghost (.ow 11 none 1) (.ghost (.ow 12 none 1) (.ghost (.ow 13 none 1) (.ghost (.ow 0 (some 3) 1) (.ghost (.ow 0 (some 4) 1) (.ghost (.ow 0 (some 5) 1) lo_spec_l03Part_4))))))))
  (.ghost (.kill [14]) (.seq (.post (.reg [⟨(some 193), .op (.mv (.tmp 0)), none⟩,
    ⟨(some 194), .op (.mv (.tmp 0)), none⟩,
    ⟨(some 195), .op (.nilc (.tmp 194)), none⟩,
    ⟨(some 196), .op (.faddr (.tmp 195) 3), none⟩,
    ⟨(some 197), .op (.load 1 false (.tmp 196)), none⟩,
    ⟨(some 198), .op (.mv (.tmp 11)), none⟩,
    ⟨(some 199), .op (.lits true 1 1 (Value.slice none 0 0) [(0, (.tmp 198))]), none⟩,
    ⟨(some 200), .op (.append (.tmp 197) (.tmp 199) 1 24), none⟩,
    ⟨(some 201), .op (.nilc (.tmp 193)), none⟩,
    ⟨(some 202), .op (.faddr (.tmp 201) 3), none⟩,
    ⟨none, .op (.store 1 (.tmp 202) (.tmp 200)), none⟩]) (.kill [11, 193, 194, 195, 196, 197, 198, 199, 200, 201, 202]))
  (.seq (.post (.reg [⟨(some 203), .op (.mv (.tmp 0)), none⟩,
    ⟨(some 204), .op (.mv (.tmp 0)), none⟩,
    ⟨(some 205), .op (.nilc (.tmp 204)), none⟩,
    ⟨(some 206), .op (.faddr (.tmp 205) 4), none⟩,
    ⟨(some 207), .op (.load 1 false (.tmp 206)), none⟩,
    ⟨(some 208), .op (.mv (.tmp 12)), none⟩,
    ⟨(some 209), .op (.lits true 1 1 (Value.slice none 0 0) [(0, (.tmp 208))]), none⟩,
    ⟨(some 210), .op (.append (.tmp 207) (.tmp 209) 1 24), none⟩,
    ⟨(some 211), .op (.nilc (.tmp 203)), none⟩,
    ⟨(some 212), .op (.faddr (.tmp 211) 4), none⟩,
    ⟨none, .op (.store 1 (.tmp 212) (.tmp 210)), none⟩]) (.kill [12, 203, 204, 205, 206, 207, 208, 209, 210, 211, 212]))
  (.post (.reg [⟨(some 213), .op (.mv (.tmp 0)), none⟩,
    ⟨(some 214), .op (.mv (.tmp 0)), none⟩,
    ⟨(some 215), .op (.nilc (.tmp 214)), none⟩,
    ⟨(some 216), .op (.faddr (.tmp 215) 5), none⟩,
    ⟨(some 217), .op (.load 1 false (.tmp 216)), none⟩,
    ⟨(some 218), .op (.mv (.tmp 13)), none⟩,
    ⟨(some 219), .op (.lits true 1 1 (Value.slice none 0 0) [(0, (.tmp 218))]), none⟩,
    ⟨(some 220), .op (.append (.tmp 217) (.tmp 219) 1 24), none⟩,
    ⟨(some 221), .op (.nilc (.tmp 213)), none⟩,
    ⟨(some 222), .op (.faddr (.tmp 221) 5), none⟩,
    ⟨none, .op (.store 1 (.tmp 222) (.tmp 220)), none⟩]) (.kill [13, 213, 214, 215, 216, 217, 218, 219, 220, 221, 222]))))))))))
  (.post (.reg [⟨(some 55), .op (.mv (.tmp 10)), none⟩,
    ⟨(some 56), .op (.bin .add (.tmp 55) (.const (Value.int .i64 1))), none⟩,
    ⟨(some 10), .op (.mv (.tmp 56)), none⟩]) (.kill [55, 56]))))
def lo_spec_l03Part_5 : AC := (.loop lb_spec_l03Part_5)
def ac_spec_l03Part : AC := (.seq (.post (.draw [⟨0, ⟨(some 22), .op (.mv (.tmp 0)), none⟩, []⟩,
    ⟨1, ⟨(some 23), .op (.mv (.tmp 0)), none⟩, []⟩,
    ⟨2, ⟨(some 24), .op (.nilc (.tmp 23)), none⟩, []⟩,
    ⟨3, ⟨(some 25), .op (.faddr (.tmp 24) 1), none⟩, []⟩,
    ⟨4, ⟨(some 26), .op (.load 1 false (.tmp 25)), none⟩, []⟩,
    ⟨5, ⟨(some 27), .op (.mv (.tmp 1)), none⟩, []⟩,
    ⟨6, ⟨(some 28), .op (.nilc (.tmp 27)), none⟩, []⟩,
    ⟨7, ⟨(some 29), .op (.faddr (.tmp 28) 1), none⟩, []⟩,
    ⟨8, ⟨(some 30), .op (.load 1 false (.tmp 29)), none⟩, []⟩,
    ⟨9, ⟨(some 31), .op (.mv (.tmp 2)), none⟩, []⟩,
    ⟨10, ⟨(some 32), .call (.func i_spec_l03Raised) [(.tmp 30), (.tmp 31)], none⟩, [4]⟩,
    ⟨11, ⟨(some 33), .op (.append (.tmp 26) (.tmp 32) 1 8), none⟩, []⟩,
    ⟨12, ⟨(some 34), .op (.nilc (.tmp 22)), none⟩, []⟩,
    ⟨13, ⟨(some 35), .op (.faddr (.tmp 34) 1), none⟩, []⟩,
    ⟨14, ⟨none, .op (.store 1 (.tmp 35) (.tmp 33)), none⟩, []⟩]
    [0, 0, 2, 6, 14, 0, 32, 96, 224, 0, 992, 2046, 4095, 8191, 16383]) (.kill [22, 23, 24, 25, 26, 27, 28, 29, 30, 31, 32, 33, 34, 35]))
  (.seq (.post (.draw [⟨0, ⟨(some 36), .op (.mv (.tmp 0)), none⟩, []⟩,
    ⟨1, ⟨(some 37), .op (.mv (.tmp 0)), none⟩, []⟩,
    ⟨2, ⟨(some 38), .op (.nilc (.tmp 37)), none⟩, []⟩,
    ⟨3, ⟨(some 39), .op (.faddr (.tmp 38) 2), none⟩, []⟩,
    ⟨4, ⟨(some 40), .op (.load 1 false (.tmp 39)), none⟩, []⟩,
    ⟨5, ⟨(some 41), .op (.mv (.tmp 1)), none⟩, []⟩,
    ⟨6, ⟨(some 42), .op (.nilc (.tmp 41)), none⟩, []⟩,
    ⟨7, ⟨(some 43), .op (.faddr (.tmp 42) 2), none⟩, []⟩,
    ⟨8, ⟨(some 44), .op (.load 1 false (.tmp 43)), none⟩, []⟩,
    ⟨9, ⟨(some 45), .op (.append (.tmp 40) (.tmp 44) 1 1), none⟩, []⟩,
    ⟨10, ⟨(some 46), .op (.nilc (.tmp 36)), none⟩, []⟩,
    ⟨11, ⟨(some 47), .op (.faddr (.tmp 46) 2), none⟩, []⟩,
    ⟨12, ⟨none, .op (.store 1 (.tmp 47) (.tmp 45)), none⟩, []⟩]
    [0, 0, 2, 6, 14, 0, 32, 96, 224, 510, 1023, 2047, 4095]) (.kill [36, 37, 38, 39, 40, 41, 42, 43, 44, 45, 46, 47]))
  (.seq (.reg [⟨(some 10), .op (.mv (.const (Value.int .i64 0))), none⟩])
  (.block 0 (.ghost (.ow 0 (some 3) 1) (.ghost (.ow 0 (some 4) 1) (.ghost (.ow 0 (some 5) 1) lo_spec_l03Part_5)))))))
theorem cf_spec_l03Part : chkFn Try.prog i_spec_l03Part ac_spec_l03Part [] 223 = true := by decide +kernel
def fa_spec_l03Part : FnA := ⟨ac_spec_l03Part, [], 223, true, false, [], .any, none⟩

/-- The checked code of spec l03Told. -/
def ac_spec_l03Told : AC := (.seq (.post (.reg [⟨(some 1), .op (.box false (.tmp 0)), none⟩,
    ⟨(some 2), .op (.alloc (Value.agg #[Value.int .i64 0, Value.slice none 0 0, Value.slice none 0 0, Value.slice none 0 0, Value.slice none 0 0, Value.slice none 0 0])), none⟩,
    ⟨(some 3), .op (.mv (.const (Value.int .i64 0))), none⟩]) (.kill [0, 3]))
  (.seq (.seq (.post (.reg [⟨(some 4), .call (.func i_spec_l03Ok) [(.tmp 1)], none⟩,
    ⟨(some 5), .op (.un .not (.tmp 4)), none⟩]) (.kill [4]))
  (.cond (.tmp 5) (.ghost (.kill [1, 5]) (.seq (.post (.reg [⟨(some 6), .op (.build [Value.int .i64 0, Value.slice none 0 0, Value.slice none 0 0, Value.slice none 0 0, Value.slice none 0 0, Value.slice none 0 0] []), none⟩,
    ⟨none, .op (.store 6 (.tmp 2) (.tmp 6)), none⟩,
    ⟨(some 3), .op (.mv (.const (Value.int .i64 3))), none⟩]) (.kill [6]))
  .ret))
  (.ghost (.kill [5]) .skip)))
  (.seq (.post (.reg [⟨(some 7), .op (.load 6 true (.tmp 1)), none⟩,
    ⟨none, .op (.store 6 (.tmp 2) (.tmp 7)), none⟩,
    ⟨(some 3), .op (.mv (.const (Value.int .i64 0))), none⟩]) (.kill [1, 7]))
  .ret)))
theorem cf_spec_l03Told : chkFn Try.prog i_spec_l03Told ac_spec_l03Told [.cell 2 6 true, .tmp 3] 8 = true := by decide +kernel
def fa_spec_l03Told : FnA := ⟨ac_spec_l03Told, [.cell 2 6 true, .tmp 3], 8, true, false, [], .any, none⟩

/-- The checked code of spec EitherChoices. -/
def ac_spec_EitherChoices : AC := (.seq (.post (.reg [⟨(some 2), .op (.box true (.tmp 0)), none⟩,
    ⟨(some 3), .op (.box true (.tmp 1)), none⟩,
    ⟨(some 4), .op (.alloc (Value.agg #[Value.int .i64 0, Value.slice none 0 0, Value.slice none 0 0, Value.slice none 0 0, Value.slice none 0 0, Value.slice none 0 0])), none⟩,
    ⟨(some 5), .op (.mv (.const (Value.int .i64 0))), none⟩]) (.kill [0, 1, 5]))
  (.seq (.seq (.post (.reg [⟨(some 7), .call (.func i_spec_l03Ok) [(.tmp 2)], none⟩,
    ⟨(some 8), .op (.un .not (.tmp 7)), none⟩,
    ⟨(some 9), .op (.mv (.tmp 8)), none⟩,
    ⟨(some 10), .call (.func i_spec_l03Ok) [(.tmp 3)], some (9, false)⟩,
    ⟨(some 11), .op (.un .not (.tmp 10)), some (9, false)⟩,
    ⟨(some 12), .op (.pick (.tmp 9) (.const (Value.bool true)) (.tmp 11)), none⟩]) (.kill [7, 8, 9, 10, 11]))
  (.cond (.tmp 12) (.ghost (.kill [2, 3, 12]) (.seq (.post (.reg [⟨(some 13), .op (.build [Value.int .i64 0, Value.slice none 0 0, Value.slice none 0 0, Value.slice none 0 0, Value.slice none 0 0, Value.slice none 0 0] []), none⟩,
    ⟨none, .op (.store 6 (.tmp 4) (.tmp 13)), none⟩,
    ⟨(some 5), .op (.mv (.const (Value.int .i64 1))), none⟩]) (.kill [13]))
  .ret))
  (.ghost (.kill [12]) .skip)))
  (.seq (.post (.reg [⟨(some 14), .op (.faddr (.tmp 2) 0), none⟩,
    ⟨(some 15), .op (.load 1 false (.tmp 14)), none⟩,
    ⟨(some 16), .op (.faddr (.tmp 3) 0), none⟩,
    ⟨(some 17), .op (.load 1 false (.tmp 16)), none⟩,
    ⟨(some 18), .op (.bin .add (.tmp 15) (.tmp 17)), none⟩,
    ⟨(some 19), .op (.build [Value.int .i64 0, Value.slice none 0 0, Value.slice none 0 0, Value.slice none 0 0, Value.slice none 0 0, Value.slice none 0 0] [(0, 1, (.tmp 18))]), none⟩,
    ⟨(some 6), .op (.alloc (Value.agg #[Value.int .i64 0, Value.slice none 0 0, Value.slice none 0 0, Value.slice none 0 0, Value.slice none 0 0, Value.slice none 0 0])), none⟩,
    ⟨none, .op (.store 6 (.tmp 6) (.tmp 19)), none⟩]) (.kill [14, 15, 16, 17, 18, 19]))
  (.seq (.post (.reg [⟨(some 20), .op (.faddr (.tmp 3) 0), none⟩,
    ⟨(some 21), .op (.load 1 false (.tmp 20)), none⟩,
    ⟨(some 22), .call (.func i_spec_l03Part) [(.tmp 6), (.tmp 2), (.const (Value.int .i64 0)), (.const (Value.int .i64 0)), (.tmp 21)], none⟩]) (.kill [20, 21, 22]))
  (.seq (.post (.reg [⟨(some 23), .op (.faddr (.tmp 2) 2), none⟩,
    ⟨(some 24), .op (.load 1 false (.tmp 23)), none⟩,
    ⟨(some 25), .op (.len false (.tmp 24)), none⟩,
    ⟨(some 26), .op (.faddr (.tmp 2) 0), none⟩,
    ⟨(some 27), .op (.load 1 false (.tmp 26)), none⟩,
    ⟨(some 28), .call (.func i_spec_l03Part) [(.tmp 6), (.tmp 3), (.tmp 25), (.tmp 27), (.const (Value.int .i64 0))], none⟩]) (.kill [2, 3, 23, 24, 25, 26, 27, 28]))
  (.seq (.post (.reg [⟨(some 29), .op (.load 6 true (.tmp 6)), none⟩,
    ⟨(some 30), .call (.func i_spec_l03Told) [(.tmp 29)], none⟩,
    ⟨(some 31), .op (.ext (.tmp 30) 0), none⟩,
    ⟨(some 32), .op (.ext (.tmp 30) 1), none⟩,
    ⟨none, .op (.store 6 (.tmp 4) (.tmp 31)), none⟩,
    ⟨(some 5), .op (.mv (.tmp 32)), none⟩]) (.kill [6, 29, 30, 31, 32]))
  .ret))))))
theorem cf_spec_EitherChoices : chkFn Try.prog i_spec_EitherChoices ac_spec_EitherChoices [.cell 4 6 true, .tmp 5] 33 = true := by decide +kernel
def fa_spec_EitherChoices : FnA := ⟨ac_spec_EitherChoices, [.cell 4 6 true, .tmp 5], 33, false, true, [(.agg [.any, (.lst 1 .any), (.lst 1 .any), (.lst 1 (.lst 1 (.lst 2 .any))), (.lst 1 (.lst 1 (.lst 1 (.lst 1 .any)))), (.lst 1 (.lst 1 (.lst 1 .any)))]), (.agg [.any, (.lst 1 .any), (.lst 1 .any), (.lst 1 (.lst 1 (.lst 2 .any))), (.lst 1 (.lst 1 (.lst 1 (.lst 1 .any)))), (.lst 1 (.lst 1 (.lst 1 .any)))])], .any, none⟩

/-- The checked code of laws toInt64S. -/
def lb_laws_toInt64S_0 : AC := (.seq (.seq (.post (.reg [⟨(some 8), .op (.mv (.tmp 4)), none⟩,
    ⟨(some 9), .op (.mv (.tmp 0)), none⟩,
    ⟨(some 10), .op (.len false (.tmp 9)), none⟩,
    ⟨(some 11), .op (.bin .lss (.tmp 8) (.tmp 10)), none⟩]) (.kill [8, 9, 10]))
  (.cond (.tmp 11) (.ghost (.kill [11]) .skip)
  (.ghost (.kill [0, 4, 11]) (.exit 0))))
  (.seq (.block 1 (.post (.reg [⟨(some 14), .op (.mv (.tmp 3)), none⟩,
    ⟨(some 15), .op (.mv (.tmp 4)), none⟩,
    ⟨(some 16), .op (.mv (.tmp 0)), none⟩,
    ⟨(some 17), .op (.mv (.tmp 4)), none⟩,
    ⟨(some 18), .op (.iaddrS (.tmp 16) (.tmp 17) 1), none⟩,
    ⟨(some 19), .op (.load 1 false (.tmp 18)), none⟩,
    ⟨(some 20), .op (.iaddrS (.tmp 14) (.tmp 15) 1), none⟩,
    ⟨none, .op (.store 1 (.tmp 20) (.tmp 19)), none⟩]) (.kill [14, 15, 16, 17, 18, 19, 20])))
  (.post (.reg [⟨(some 12), .op (.mv (.tmp 4)), none⟩,
    ⟨(some 13), .op (.bin .add (.tmp 12) (.const (Value.int .i64 1))), none⟩,
    ⟨(some 4), .op (.mv (.tmp 13)), none⟩]) (.kill [12, 13]))))
def lo_laws_toInt64S_0 : AC := (.loop lb_laws_toInt64S_0)
def ac_laws_toInt64S : AC := (.seq (.post (.reg [⟨(some 2), .op (.mv (.const (Value.slice none 0 0))), none⟩]) (.kill [2]))
  (.seq (.post (.reg [⟨(some 5), .op (.mv (.tmp 0)), none⟩,
    ⟨(some 6), .op (.len false (.tmp 5)), none⟩,
    ⟨(some 7), .op (.make (.tmp 6) (.tmp 6) 1 8 (Value.int .i64 0)), none⟩,
    ⟨(some 3), .op (.mv (.tmp 7)), none⟩]) (.kill [5, 6, 7]))
  (.seq (.seq (.reg [⟨(some 4), .op (.mv (.const (Value.int .i64 0))), none⟩])
  (.block 0 lo_laws_toInt64S_0))
  (.ghost (.kill [0, 4]) (.seq (.post (.reg [⟨(some 21), .op (.mv (.tmp 3)), none⟩,
    ⟨(some 2), .op (.mv (.tmp 21)), none⟩]) (.kill [3, 21]))
  .ret)))))
theorem cf_laws_toInt64S : chkFn Try.prog i_laws_toInt64S ac_laws_toInt64S [.tmp 2] 22 = true := by decide +kernel
def fa_laws_toInt64S : FnA := ⟨ac_laws_toInt64S, [.tmp 2], 22, false, false, [], .any, none⟩

/-- The checked code of laws toBoolS. -/
def lb_laws_toBoolS_0 : AC := (.seq (.seq (.post (.reg [⟨(some 8), .op (.mv (.tmp 4)), none⟩,
    ⟨(some 9), .op (.mv (.tmp 0)), none⟩,
    ⟨(some 10), .op (.len false (.tmp 9)), none⟩,
    ⟨(some 11), .op (.bin .lss (.tmp 8) (.tmp 10)), none⟩]) (.kill [8, 9, 10]))
  (.cond (.tmp 11) (.ghost (.kill [11]) .skip)
  (.ghost (.kill [0, 4, 11]) (.exit 0))))
  (.seq (.block 1 (.post (.reg [⟨(some 14), .op (.mv (.tmp 3)), none⟩,
    ⟨(some 15), .op (.mv (.tmp 4)), none⟩,
    ⟨(some 16), .op (.mv (.tmp 0)), none⟩,
    ⟨(some 17), .op (.mv (.tmp 4)), none⟩,
    ⟨(some 18), .op (.iaddrS (.tmp 16) (.tmp 17) 1), none⟩,
    ⟨(some 19), .op (.load 1 false (.tmp 18)), none⟩,
    ⟨(some 20), .op (.iaddrS (.tmp 14) (.tmp 15) 1), none⟩,
    ⟨none, .op (.store 1 (.tmp 20) (.tmp 19)), none⟩]) (.kill [14, 15, 16, 17, 18, 19, 20])))
  (.post (.reg [⟨(some 12), .op (.mv (.tmp 4)), none⟩,
    ⟨(some 13), .op (.bin .add (.tmp 12) (.const (Value.int .i64 1))), none⟩,
    ⟨(some 4), .op (.mv (.tmp 13)), none⟩]) (.kill [12, 13]))))
def lo_laws_toBoolS_0 : AC := (.loop lb_laws_toBoolS_0)
def ac_laws_toBoolS : AC := (.seq (.post (.reg [⟨(some 2), .op (.mv (.const (Value.slice none 0 0))), none⟩]) (.kill [2]))
  (.seq (.post (.reg [⟨(some 5), .op (.mv (.tmp 0)), none⟩,
    ⟨(some 6), .op (.len false (.tmp 5)), none⟩,
    ⟨(some 7), .op (.make (.tmp 6) (.tmp 6) 1 1 (Value.bool false)), none⟩,
    ⟨(some 3), .op (.mv (.tmp 7)), none⟩]) (.kill [5, 6, 7]))
  (.seq (.seq (.reg [⟨(some 4), .op (.mv (.const (Value.int .i64 0))), none⟩])
  (.block 0 lo_laws_toBoolS_0))
  (.ghost (.kill [0, 4]) (.seq (.post (.reg [⟨(some 21), .op (.mv (.tmp 3)), none⟩,
    ⟨(some 2), .op (.mv (.tmp 21)), none⟩]) (.kill [3, 21]))
  .ret)))))
theorem cf_laws_toBoolS : chkFn Try.prog i_laws_toBoolS ac_laws_toBoolS [.tmp 2] 22 = true := by decide +kernel
def fa_laws_toBoolS : FnA := ⟨ac_laws_toBoolS, [.tmp 2], 22, false, false, [], .any, none⟩

/-- The checked code of laws toPush. -/
def ac_laws_toPush : AC := (.seq (.post (.reg [⟨(some 1), .op (.box true (.tmp 0)), none⟩,
    ⟨(some 2), .op (.alloc (Value.agg #[Value.int .i64 0, Value.int .i64 0])), none⟩]) (.kill [0]))
  (.seq (.reg [⟨(some 3), .op (.alloc (Value.agg #[Value.int .i64 0, Value.int .i64 0])), none⟩])
  (.seq (.post (.reg [⟨(some 4), .op (.faddr (.tmp 1) 0), none⟩,
    ⟨(some 5), .op (.load 1 false (.tmp 4)), none⟩,
    ⟨(some 6), .op (.faddr (.tmp 3) 0), none⟩,
    ⟨none, .op (.store 1 (.tmp 6) (.tmp 5)), none⟩]) (.kill [4, 5, 6]))
  (.seq (.post (.reg [⟨(some 7), .op (.faddr (.tmp 1) 1), none⟩,
    ⟨(some 8), .op (.load 1 false (.tmp 7)), none⟩,
    ⟨(some 9), .op (.faddr (.tmp 3) 1), none⟩,
    ⟨none, .op (.store 1 (.tmp 9) (.tmp 8)), none⟩]) (.kill [1, 7, 8, 9]))
  (.seq (.post (.reg [⟨(some 10), .op (.load 2 true (.tmp 3)), none⟩,
    ⟨none, .op (.store 2 (.tmp 2) (.tmp 10)), none⟩]) (.kill [3, 10]))
  .ret)))))
theorem cf_laws_toPush : chkFn Try.prog i_laws_toPush ac_laws_toPush [.cell 2 2 true] 11 = true := by decide +kernel
def fa_laws_toPush : FnA := ⟨ac_laws_toPush, [.cell 2 2 true], 11, false, false, [], .any, none⟩

/-- The checked code of laws toPushS. -/
def lb_laws_toPushS_0 : AC := (.seq (.seq (.post (.reg [⟨(some 8), .op (.mv (.tmp 4)), none⟩,
    ⟨(some 9), .op (.mv (.tmp 0)), none⟩,
    ⟨(some 10), .op (.len false (.tmp 9)), none⟩,
    ⟨(some 11), .op (.bin .lss (.tmp 8) (.tmp 10)), none⟩]) (.kill [8, 9, 10]))
  (.cond (.tmp 11) (.ghost (.kill [11]) .skip)
  (.ghost (.kill [0, 4, 11]) (.exit 0))))
  (.seq (.block 1 (.post (.reg [⟨(some 14), .op (.mv (.tmp 3)), none⟩,
    ⟨(some 15), .op (.mv (.tmp 4)), none⟩,
    ⟨(some 16), .op (.mv (.tmp 0)), none⟩,
    ⟨(some 17), .op (.mv (.tmp 4)), none⟩,
    ⟨(some 18), .op (.iaddrS (.tmp 16) (.tmp 17) 2), none⟩,
    ⟨(some 19), .op (.load 2 true (.tmp 18)), none⟩,
    ⟨(some 20), .call (.func i_laws_toPush) [(.tmp 19)], none⟩,
    ⟨(some 21), .op (.iaddrS (.tmp 14) (.tmp 15) 2), none⟩,
    ⟨none, .op (.store 2 (.tmp 21) (.tmp 20)), none⟩]) (.kill [14, 15, 16, 17, 18, 19, 20, 21])))
  (.post (.reg [⟨(some 12), .op (.mv (.tmp 4)), none⟩,
    ⟨(some 13), .op (.bin .add (.tmp 12) (.const (Value.int .i64 1))), none⟩,
    ⟨(some 4), .op (.mv (.tmp 13)), none⟩]) (.kill [12, 13]))))
def lo_laws_toPushS_0 : AC := (.loop lb_laws_toPushS_0)
def ac_laws_toPushS : AC := (.seq (.post (.reg [⟨(some 2), .op (.mv (.const (Value.slice none 0 0))), none⟩]) (.kill [2]))
  (.seq (.post (.reg [⟨(some 5), .op (.mv (.tmp 0)), none⟩,
    ⟨(some 6), .op (.len false (.tmp 5)), none⟩,
    ⟨(some 7), .op (.make (.tmp 6) (.tmp 6) 2 16 (Value.agg #[Value.int .i64 0, Value.int .i64 0])), none⟩,
    ⟨(some 3), .op (.mv (.tmp 7)), none⟩]) (.kill [5, 6, 7]))
  (.seq (.seq (.reg [⟨(some 4), .op (.mv (.const (Value.int .i64 0))), none⟩])
  (.block 0 lo_laws_toPushS_0))
  (.ghost (.kill [0, 4]) (.seq (.post (.reg [⟨(some 22), .op (.mv (.tmp 3)), none⟩,
    ⟨(some 2), .op (.mv (.tmp 22)), none⟩]) (.kill [3, 22]))
  .ret)))))
theorem cf_laws_toPushS : chkFn Try.prog i_laws_toPushS ac_laws_toPushS [.tmp 2] 23 = true := by decide +kernel
def fa_laws_toPushS : FnA := ⟨ac_laws_toPushS, [.tmp 2], 23, false, false, [], .any, none⟩

/-- The checked code of laws toPushSS. -/
def lb_laws_toPushSS_0 : AC := (.seq (.seq (.post (.reg [⟨(some 8), .op (.mv (.tmp 4)), none⟩,
    ⟨(some 9), .op (.mv (.tmp 0)), none⟩,
    ⟨(some 10), .op (.len false (.tmp 9)), none⟩,
    ⟨(some 11), .op (.bin .lss (.tmp 8) (.tmp 10)), none⟩]) (.kill [8, 9, 10]))
  (.cond (.tmp 11) (.ghost (.kill [11]) .skip)
  (.ghost (.kill [0, 4, 11]) (.exit 0))))
  (.seq (.block 1 (.post (.reg [⟨(some 14), .op (.mv (.tmp 3)), none⟩,
    ⟨(some 15), .op (.mv (.tmp 4)), none⟩,
    ⟨(some 16), .op (.mv (.tmp 0)), none⟩,
    ⟨(some 17), .op (.mv (.tmp 4)), none⟩,
    ⟨(some 18), .op (.iaddrS (.tmp 16) (.tmp 17) 1), none⟩,
    ⟨(some 19), .op (.load 1 false (.tmp 18)), none⟩,
    ⟨(some 20), .call (.func i_laws_toPushS) [(.tmp 19)], none⟩,
    ⟨(some 21), .op (.iaddrS (.tmp 14) (.tmp 15) 1), none⟩,
    ⟨none, .op (.store 1 (.tmp 21) (.tmp 20)), none⟩]) (.kill [14, 15, 16, 17, 18, 19, 20, 21])))
  (.post (.reg [⟨(some 12), .op (.mv (.tmp 4)), none⟩,
    ⟨(some 13), .op (.bin .add (.tmp 12) (.const (Value.int .i64 1))), none⟩,
    ⟨(some 4), .op (.mv (.tmp 13)), none⟩]) (.kill [12, 13]))))
def lo_laws_toPushSS_0 : AC := (.loop lb_laws_toPushSS_0)
def ac_laws_toPushSS : AC := (.seq (.post (.reg [⟨(some 2), .op (.mv (.const (Value.slice none 0 0))), none⟩]) (.kill [2]))
  (.seq (.post (.reg [⟨(some 5), .op (.mv (.tmp 0)), none⟩,
    ⟨(some 6), .op (.len false (.tmp 5)), none⟩,
    ⟨(some 7), .op (.make (.tmp 6) (.tmp 6) 1 24 (Value.slice none 0 0)), none⟩,
    ⟨(some 3), .op (.mv (.tmp 7)), none⟩]) (.kill [5, 6, 7]))
  (.seq (.seq (.reg [⟨(some 4), .op (.mv (.const (Value.int .i64 0))), none⟩])
  (.block 0 lo_laws_toPushSS_0))
  (.ghost (.kill [0, 4]) (.seq (.post (.reg [⟨(some 22), .op (.mv (.tmp 3)), none⟩,
    ⟨(some 2), .op (.mv (.tmp 22)), none⟩]) (.kill [3, 22]))
  .ret)))))
theorem cf_laws_toPushSS : chkFn Try.prog i_laws_toPushSS ac_laws_toPushSS [.tmp 2] 23 = true := by decide +kernel
def fa_laws_toPushSS : FnA := ⟨ac_laws_toPushSS, [.tmp 2], 23, false, false, [], .any, none⟩

/-- The checked code of laws toPushSSS. -/
def lb_laws_toPushSSS_0 : AC := (.seq (.seq (.post (.reg [⟨(some 8), .op (.mv (.tmp 4)), none⟩,
    ⟨(some 9), .op (.mv (.tmp 0)), none⟩,
    ⟨(some 10), .op (.len false (.tmp 9)), none⟩,
    ⟨(some 11), .op (.bin .lss (.tmp 8) (.tmp 10)), none⟩]) (.kill [8, 9, 10]))
  (.cond (.tmp 11) (.ghost (.kill [11]) .skip)
  (.ghost (.kill [0, 4, 11]) (.exit 0))))
  (.seq (.block 1 (.post (.reg [⟨(some 14), .op (.mv (.tmp 3)), none⟩,
    ⟨(some 15), .op (.mv (.tmp 4)), none⟩,
    ⟨(some 16), .op (.mv (.tmp 0)), none⟩,
    ⟨(some 17), .op (.mv (.tmp 4)), none⟩,
    ⟨(some 18), .op (.iaddrS (.tmp 16) (.tmp 17) 1), none⟩,
    ⟨(some 19), .op (.load 1 false (.tmp 18)), none⟩,
    ⟨(some 20), .call (.func i_laws_toPushSS) [(.tmp 19)], none⟩,
    ⟨(some 21), .op (.iaddrS (.tmp 14) (.tmp 15) 1), none⟩,
    ⟨none, .op (.store 1 (.tmp 21) (.tmp 20)), none⟩]) (.kill [14, 15, 16, 17, 18, 19, 20, 21])))
  (.post (.reg [⟨(some 12), .op (.mv (.tmp 4)), none⟩,
    ⟨(some 13), .op (.bin .add (.tmp 12) (.const (Value.int .i64 1))), none⟩,
    ⟨(some 4), .op (.mv (.tmp 13)), none⟩]) (.kill [12, 13]))))
def lo_laws_toPushSSS_0 : AC := (.loop lb_laws_toPushSSS_0)
def ac_laws_toPushSSS : AC := (.seq (.post (.reg [⟨(some 2), .op (.mv (.const (Value.slice none 0 0))), none⟩]) (.kill [2]))
  (.seq (.post (.reg [⟨(some 5), .op (.mv (.tmp 0)), none⟩,
    ⟨(some 6), .op (.len false (.tmp 5)), none⟩,
    ⟨(some 7), .op (.make (.tmp 6) (.tmp 6) 1 24 (Value.slice none 0 0)), none⟩,
    ⟨(some 3), .op (.mv (.tmp 7)), none⟩]) (.kill [5, 6, 7]))
  (.seq (.seq (.reg [⟨(some 4), .op (.mv (.const (Value.int .i64 0))), none⟩])
  (.block 0 lo_laws_toPushSSS_0))
  (.ghost (.kill [0, 4]) (.seq (.post (.reg [⟨(some 22), .op (.mv (.tmp 3)), none⟩,
    ⟨(some 2), .op (.mv (.tmp 22)), none⟩]) (.kill [3, 22]))
  .ret)))))
theorem cf_laws_toPushSSS : chkFn Try.prog i_laws_toPushSSS ac_laws_toPushSSS [.tmp 2] 23 = true := by decide +kernel
def fa_laws_toPushSSS : FnA := ⟨ac_laws_toPushSSS, [.tmp 2], 23, false, false, [], .any, none⟩

/-- The checked code of laws toInt64SS. -/
def lb_laws_toInt64SS_0 : AC := (.seq (.seq (.post (.reg [⟨(some 8), .op (.mv (.tmp 4)), none⟩,
    ⟨(some 9), .op (.mv (.tmp 0)), none⟩,
    ⟨(some 10), .op (.len false (.tmp 9)), none⟩,
    ⟨(some 11), .op (.bin .lss (.tmp 8) (.tmp 10)), none⟩]) (.kill [8, 9, 10]))
  (.cond (.tmp 11) (.ghost (.kill [11]) .skip)
  (.ghost (.kill [0, 4, 11]) (.exit 0))))
  (.seq (.block 1 (.post (.reg [⟨(some 14), .op (.mv (.tmp 3)), none⟩,
    ⟨(some 15), .op (.mv (.tmp 4)), none⟩,
    ⟨(some 16), .op (.mv (.tmp 0)), none⟩,
    ⟨(some 17), .op (.mv (.tmp 4)), none⟩,
    ⟨(some 18), .op (.iaddrS (.tmp 16) (.tmp 17) 1), none⟩,
    ⟨(some 19), .op (.load 1 false (.tmp 18)), none⟩,
    ⟨(some 20), .call (.func i_laws_toInt64S) [(.tmp 19)], none⟩,
    ⟨(some 21), .op (.iaddrS (.tmp 14) (.tmp 15) 1), none⟩,
    ⟨none, .op (.store 1 (.tmp 21) (.tmp 20)), none⟩]) (.kill [14, 15, 16, 17, 18, 19, 20, 21])))
  (.post (.reg [⟨(some 12), .op (.mv (.tmp 4)), none⟩,
    ⟨(some 13), .op (.bin .add (.tmp 12) (.const (Value.int .i64 1))), none⟩,
    ⟨(some 4), .op (.mv (.tmp 13)), none⟩]) (.kill [12, 13]))))
def lo_laws_toInt64SS_0 : AC := (.loop lb_laws_toInt64SS_0)
def ac_laws_toInt64SS : AC := (.seq (.post (.reg [⟨(some 2), .op (.mv (.const (Value.slice none 0 0))), none⟩]) (.kill [2]))
  (.seq (.post (.reg [⟨(some 5), .op (.mv (.tmp 0)), none⟩,
    ⟨(some 6), .op (.len false (.tmp 5)), none⟩,
    ⟨(some 7), .op (.make (.tmp 6) (.tmp 6) 1 24 (Value.slice none 0 0)), none⟩,
    ⟨(some 3), .op (.mv (.tmp 7)), none⟩]) (.kill [5, 6, 7]))
  (.seq (.seq (.reg [⟨(some 4), .op (.mv (.const (Value.int .i64 0))), none⟩])
  (.block 0 lo_laws_toInt64SS_0))
  (.ghost (.kill [0, 4]) (.seq (.post (.reg [⟨(some 22), .op (.mv (.tmp 3)), none⟩,
    ⟨(some 2), .op (.mv (.tmp 22)), none⟩]) (.kill [3, 22]))
  .ret)))))
theorem cf_laws_toInt64SS : chkFn Try.prog i_laws_toInt64SS ac_laws_toInt64SS [.tmp 2] 23 = true := by decide +kernel
def fa_laws_toInt64SS : FnA := ⟨ac_laws_toInt64SS, [.tmp 2], 23, false, false, [], .any, none⟩

/-- The checked code of laws toInt64SSS. -/
def lb_laws_toInt64SSS_0 : AC := (.seq (.seq (.post (.reg [⟨(some 8), .op (.mv (.tmp 4)), none⟩,
    ⟨(some 9), .op (.mv (.tmp 0)), none⟩,
    ⟨(some 10), .op (.len false (.tmp 9)), none⟩,
    ⟨(some 11), .op (.bin .lss (.tmp 8) (.tmp 10)), none⟩]) (.kill [8, 9, 10]))
  (.cond (.tmp 11) (.ghost (.kill [11]) .skip)
  (.ghost (.kill [0, 4, 11]) (.exit 0))))
  (.seq (.block 1 (.post (.reg [⟨(some 14), .op (.mv (.tmp 3)), none⟩,
    ⟨(some 15), .op (.mv (.tmp 4)), none⟩,
    ⟨(some 16), .op (.mv (.tmp 0)), none⟩,
    ⟨(some 17), .op (.mv (.tmp 4)), none⟩,
    ⟨(some 18), .op (.iaddrS (.tmp 16) (.tmp 17) 1), none⟩,
    ⟨(some 19), .op (.load 1 false (.tmp 18)), none⟩,
    ⟨(some 20), .call (.func i_laws_toInt64SS) [(.tmp 19)], none⟩,
    ⟨(some 21), .op (.iaddrS (.tmp 14) (.tmp 15) 1), none⟩,
    ⟨none, .op (.store 1 (.tmp 21) (.tmp 20)), none⟩]) (.kill [14, 15, 16, 17, 18, 19, 20, 21])))
  (.post (.reg [⟨(some 12), .op (.mv (.tmp 4)), none⟩,
    ⟨(some 13), .op (.bin .add (.tmp 12) (.const (Value.int .i64 1))), none⟩,
    ⟨(some 4), .op (.mv (.tmp 13)), none⟩]) (.kill [12, 13]))))
def lo_laws_toInt64SSS_0 : AC := (.loop lb_laws_toInt64SSS_0)
def ac_laws_toInt64SSS : AC := (.seq (.post (.reg [⟨(some 2), .op (.mv (.const (Value.slice none 0 0))), none⟩]) (.kill [2]))
  (.seq (.post (.reg [⟨(some 5), .op (.mv (.tmp 0)), none⟩,
    ⟨(some 6), .op (.len false (.tmp 5)), none⟩,
    ⟨(some 7), .op (.make (.tmp 6) (.tmp 6) 1 24 (Value.slice none 0 0)), none⟩,
    ⟨(some 3), .op (.mv (.tmp 7)), none⟩]) (.kill [5, 6, 7]))
  (.seq (.seq (.reg [⟨(some 4), .op (.mv (.const (Value.int .i64 0))), none⟩])
  (.block 0 lo_laws_toInt64SSS_0))
  (.ghost (.kill [0, 4]) (.seq (.post (.reg [⟨(some 22), .op (.mv (.tmp 3)), none⟩,
    ⟨(some 2), .op (.mv (.tmp 22)), none⟩]) (.kill [3, 22]))
  .ret)))))
theorem cf_laws_toInt64SSS : chkFn Try.prog i_laws_toInt64SSS ac_laws_toInt64SSS [.tmp 2] 23 = true := by decide +kernel
def fa_laws_toInt64SSS : FnA := ⟨ac_laws_toInt64SSS, [.tmp 2], 23, false, false, [], .any, none⟩

/-- The checked code of laws toInt64SSSS. -/
def lb_laws_toInt64SSSS_0 : AC := (.seq (.seq (.post (.reg [⟨(some 8), .op (.mv (.tmp 4)), none⟩,
    ⟨(some 9), .op (.mv (.tmp 0)), none⟩,
    ⟨(some 10), .op (.len false (.tmp 9)), none⟩,
    ⟨(some 11), .op (.bin .lss (.tmp 8) (.tmp 10)), none⟩]) (.kill [8, 9, 10]))
  (.cond (.tmp 11) (.ghost (.kill [11]) .skip)
  (.ghost (.kill [0, 4, 11]) (.exit 0))))
  (.seq (.block 1 (.post (.reg [⟨(some 14), .op (.mv (.tmp 3)), none⟩,
    ⟨(some 15), .op (.mv (.tmp 4)), none⟩,
    ⟨(some 16), .op (.mv (.tmp 0)), none⟩,
    ⟨(some 17), .op (.mv (.tmp 4)), none⟩,
    ⟨(some 18), .op (.iaddrS (.tmp 16) (.tmp 17) 1), none⟩,
    ⟨(some 19), .op (.load 1 false (.tmp 18)), none⟩,
    ⟨(some 20), .call (.func i_laws_toInt64SSS) [(.tmp 19)], none⟩,
    ⟨(some 21), .op (.iaddrS (.tmp 14) (.tmp 15) 1), none⟩,
    ⟨none, .op (.store 1 (.tmp 21) (.tmp 20)), none⟩]) (.kill [14, 15, 16, 17, 18, 19, 20, 21])))
  (.post (.reg [⟨(some 12), .op (.mv (.tmp 4)), none⟩,
    ⟨(some 13), .op (.bin .add (.tmp 12) (.const (Value.int .i64 1))), none⟩,
    ⟨(some 4), .op (.mv (.tmp 13)), none⟩]) (.kill [12, 13]))))
def lo_laws_toInt64SSSS_0 : AC := (.loop lb_laws_toInt64SSSS_0)
def ac_laws_toInt64SSSS : AC := (.seq (.post (.reg [⟨(some 2), .op (.mv (.const (Value.slice none 0 0))), none⟩]) (.kill [2]))
  (.seq (.post (.reg [⟨(some 5), .op (.mv (.tmp 0)), none⟩,
    ⟨(some 6), .op (.len false (.tmp 5)), none⟩,
    ⟨(some 7), .op (.make (.tmp 6) (.tmp 6) 1 24 (Value.slice none 0 0)), none⟩,
    ⟨(some 3), .op (.mv (.tmp 7)), none⟩]) (.kill [5, 6, 7]))
  (.seq (.seq (.reg [⟨(some 4), .op (.mv (.const (Value.int .i64 0))), none⟩])
  (.block 0 lo_laws_toInt64SSSS_0))
  (.ghost (.kill [0, 4]) (.seq (.post (.reg [⟨(some 22), .op (.mv (.tmp 3)), none⟩,
    ⟨(some 2), .op (.mv (.tmp 22)), none⟩]) (.kill [3, 22]))
  .ret)))))
theorem cf_laws_toInt64SSSS : chkFn Try.prog i_laws_toInt64SSSS ac_laws_toInt64SSSS [.tmp 2] 23 = true := by decide +kernel
def fa_laws_toInt64SSSS : FnA := ⟨ac_laws_toInt64SSSS, [.tmp 2], 23, false, false, [], .any, none⟩

/-- The checked code of laws toChoices. -/
def ac_laws_toChoices : AC := (.seq (.post (.reg [⟨(some 1), .op (.box true (.tmp 0)), none⟩,
    ⟨(some 2), .op (.alloc (Value.agg #[Value.int .i64 0, Value.slice none 0 0, Value.slice none 0 0, Value.slice none 0 0, Value.slice none 0 0, Value.slice none 0 0])), none⟩]) (.kill [0]))
  (.seq (.reg [⟨(some 3), .op (.alloc (Value.agg #[Value.int .i64 0, Value.slice none 0 0, Value.slice none 0 0, Value.slice none 0 0, Value.slice none 0 0, Value.slice none 0 0])), none⟩])
  (.seq (.post (.reg [⟨(some 4), .op (.faddr (.tmp 1) 0), none⟩,
    ⟨(some 5), .op (.load 1 false (.tmp 4)), none⟩,
    ⟨(some 6), .op (.faddr (.tmp 3) 0), none⟩,
    ⟨none, .op (.store 1 (.tmp 6) (.tmp 5)), none⟩]) (.kill [4, 5, 6]))
  (.seq (.post (.reg [⟨(some 7), .op (.faddr (.tmp 1) 1), none⟩,
    ⟨(some 8), .op (.load 1 false (.tmp 7)), none⟩,
    ⟨(some 9), .call (.func i_laws_toInt64S) [(.tmp 8)], none⟩,
    ⟨(some 10), .op (.faddr (.tmp 3) 1), none⟩,
    ⟨none, .op (.store 1 (.tmp 10) (.tmp 9)), none⟩]) (.kill [7, 8, 9, 10]))
  (.seq (.post (.reg [⟨(some 11), .op (.faddr (.tmp 1) 2), none⟩,
    ⟨(some 12), .op (.load 1 false (.tmp 11)), none⟩,
    ⟨(some 13), .call (.func i_laws_toBoolS) [(.tmp 12)], none⟩,
    ⟨(some 14), .op (.faddr (.tmp 3) 2), none⟩,
    ⟨none, .op (.store 1 (.tmp 14) (.tmp 13)), none⟩]) (.kill [11, 12, 13, 14]))
  (.seq (.post (.reg [⟨(some 15), .op (.faddr (.tmp 1) 3), none⟩,
    ⟨(some 16), .op (.load 1 false (.tmp 15)), none⟩,
    ⟨(some 17), .call (.func i_laws_toPushSSS) [(.tmp 16)], none⟩,
    ⟨(some 18), .op (.faddr (.tmp 3) 3), none⟩,
    ⟨none, .op (.store 1 (.tmp 18) (.tmp 17)), none⟩]) (.kill [15, 16, 17, 18]))
  (.seq (.post (.reg [⟨(some 19), .op (.faddr (.tmp 1) 4), none⟩,
    ⟨(some 20), .op (.load 1 false (.tmp 19)), none⟩,
    ⟨(some 21), .call (.func i_laws_toInt64SSSS) [(.tmp 20)], none⟩,
    ⟨(some 22), .op (.faddr (.tmp 3) 4), none⟩,
    ⟨none, .op (.store 1 (.tmp 22) (.tmp 21)), none⟩]) (.kill [19, 20, 21, 22]))
  (.seq (.post (.reg [⟨(some 23), .op (.faddr (.tmp 1) 5), none⟩,
    ⟨(some 24), .op (.load 1 false (.tmp 23)), none⟩,
    ⟨(some 25), .call (.func i_laws_toInt64SSS) [(.tmp 24)], none⟩,
    ⟨(some 26), .op (.faddr (.tmp 3) 5), none⟩,
    ⟨none, .op (.store 1 (.tmp 26) (.tmp 25)), none⟩]) (.kill [1, 23, 24, 25, 26]))
  (.seq (.post (.reg [⟨(some 27), .op (.load 6 true (.tmp 3)), none⟩,
    ⟨none, .op (.store 6 (.tmp 2) (.tmp 27)), none⟩]) (.kill [3, 27]))
  .ret)))))))))
theorem cf_laws_toChoices : chkFn Try.prog i_laws_toChoices ac_laws_toChoices [.cell 2 6 true] 28 = true := by decide +kernel
def fa_laws_toChoices : FnA := ⟨ac_laws_toChoices, [.cell 2 6 true], 28, false, false, [], .any, none⟩

/-- The checked code of impl within. -/
def ac_impl_within : AC := (.seq (.post (.reg [⟨(some 6), .op (.mv (.const (Value.bool false))), none⟩]) (.kill [6]))
  (.seq (.post (.reg [⟨(some 7), .op (.mv (.tmp 0)), none⟩,
    ⟨(some 8), .op (.mv (.tmp 1)), none⟩,
    ⟨(some 9), .op (.bin .geq (.tmp 7) (.tmp 8)), none⟩,
    ⟨(some 10), .op (.mv (.tmp 9)), none⟩,
    ⟨(some 11), .op (.mv (.tmp 0)), some (10, true)⟩,
    ⟨(some 12), .op (.mv (.tmp 2)), some (10, true)⟩,
    ⟨(some 13), .op (.bin .leq (.tmp 11) (.tmp 12)), some (10, true)⟩,
    ⟨(some 14), .op (.pick (.tmp 10) (.tmp 13) (.const (Value.bool false))), none⟩,
    ⟨(some 6), .op (.mv (.tmp 14)), none⟩]) (.kill [0, 1, 2, 7, 8, 9, 10, 11, 12, 13, 14]))
  .ret))
theorem cf_impl_within : chkFn Try.prog i_impl_within ac_impl_within [.tmp 6] 15 = true := by decide +kernel
def fa_impl_within : FnA := ⟨ac_impl_within, [.tmp 6], 15, false, true, [], .any, none⟩

/-- The checked code of impl size bool . -/
def ac_impl_size_bool : AC := (.seq (.post (.reg [⟨(some 2), .op (.mv (.const (Value.int .i64 0))), none⟩]) (.kill [2]))
  (.seq (.post (.reg [⟨(some 3), .op (.mv (.tmp 0)), none⟩,
    ⟨(some 4), .op (.len false (.tmp 3)), none⟩,
    ⟨(some 2), .op (.mv (.tmp 4)), none⟩]) (.kill [0, 3, 4]))
  .ret))
theorem cf_impl_size_bool : chkFn Try.prog i_impl_size_bool ac_impl_size_bool [.tmp 2] 5 = true := by decide +kernel
def fa_impl_size_bool : FnA := ⟨ac_impl_size_bool, [.tmp 2], 5, false, true, [], .any, none⟩

/-- The checked code of impl size     int64 . -/
def ac_impl_size_L_L_int64 : AC := (.seq (.post (.reg [⟨(some 2), .op (.mv (.const (Value.int .i64 0))), none⟩]) (.kill [2]))
  (.seq (.post (.reg [⟨(some 3), .op (.mv (.tmp 0)), none⟩,
    ⟨(some 4), .op (.len false (.tmp 3)), none⟩,
    ⟨(some 2), .op (.mv (.tmp 4)), none⟩]) (.kill [0, 3, 4]))
  .ret))
theorem cf_impl_size_L_L_int64 : chkFn Try.prog i_impl_size_L_L_int64 ac_impl_size_L_L_int64 [.tmp 2] 5 = true := by decide +kernel
def fa_impl_size_L_L_int64 : FnA := ⟨ac_impl_size_L_L_int64, [.tmp 2], 5, false, true, [], .any, none⟩

/-- The checked code of impl size   int64 . -/
def ac_impl_size_L_int64 : AC := (.seq (.post (.reg [⟨(some 2), .op (.mv (.const (Value.int .i64 0))), none⟩]) (.kill [2]))
  (.seq (.post (.reg [⟨(some 3), .op (.mv (.tmp 0)), none⟩,
    ⟨(some 4), .op (.len false (.tmp 3)), none⟩,
    ⟨(some 2), .op (.mv (.tmp 4)), none⟩]) (.kill [0, 3, 4]))
  .ret))
theorem cf_impl_size_L_int64 : chkFn Try.prog i_impl_size_L_int64 ac_impl_size_L_int64 [.tmp 2] 5 = true := by decide +kernel
def fa_impl_size_L_int64 : FnA := ⟨ac_impl_size_L_int64, [.tmp 2], 5, false, true, [], .any, none⟩

/-- The checked code of impl isRising. -/
def lb_impl_isRising_0 : AC := (.seq (.reg [⟨(some 10), .op (.bin .lss (.tmp 9) (.tmp 8)), none⟩])
  (.seq (.cond (.tmp 10) (.ghost (.kill [10]) .skip)
  (.ghost (.kill [0, 1, 7, 8, 9, 10]) (.exit 0)))
  (.seq (.block 1 (.seq (.post (.reg [⟨(some 11), .op (.mv (.tmp 9)), none⟩,
    ⟨(some 12), .op (.iaddrS (.tmp 7) (.tmp 9) 1), none⟩,
    ⟨(some 13), .op (.load 1 false (.tmp 12)), none⟩,
    ⟨(some 5), .op (.mv (.tmp 11)), none⟩,
    ⟨(some 6), .op (.mv (.tmp 13)), none⟩]) (.kill [11, 12, 13]))
  (.seq (.post (.reg [⟨(some 14), .op (.mv (.tmp 6)), none⟩,
    ⟨(some 15), .op (.mv (.tmp 1)), none⟩,
    ⟨(some 16), .op (.bin .sub (.tmp 15) (.const (Value.int .i64 1))), none⟩,
    ⟨(some 17), .call (.func i_impl_within) [(.tmp 14), (.const (Value.int .i64 0)), (.tmp 16)], none⟩,
    ⟨(some 18), .op (.un .not (.tmp 17)), none⟩,
    ⟨(some 19), .op (.mv (.tmp 18)), none⟩,
    ⟨(some 20), .op (.mv (.tmp 5)), some (19, false)⟩,
    ⟨(some 21), .op (.bin .gtr (.tmp 20) (.const (Value.int .i64 0))), some (19, false)⟩,
    ⟨(some 22), .op (.mv (.tmp 21)), some (19, false)⟩,
    ⟨(some 23), .op (.mv (.tmp 6)), some (22, true)⟩,
    ⟨(some 24), .op (.mv (.tmp 0)), some (22, true)⟩,
    ⟨(some 25), .op (.mv (.tmp 5)), some (22, true)⟩,
    ⟨(some 26), .op (.bin .sub (.tmp 25) (.const (Value.int .i64 1))), some (22, true)⟩,
    ⟨(some 27), .op (.iaddrS (.tmp 24) (.tmp 26) 1), some (22, true)⟩,
    ⟨(some 28), .op (.load 1 false (.tmp 27)), some (22, true)⟩,
    ⟨(some 29), .op (.bin .leq (.tmp 23) (.tmp 28)), some (22, true)⟩,
    ⟨(some 30), .op (.pick (.tmp 22) (.tmp 29) (.const (Value.bool false))), some (19, false)⟩,
    ⟨(some 31), .op (.pick (.tmp 19) (.const (Value.bool true)) (.tmp 30)), none⟩]) (.kill [5, 6, 14, 15, 16, 17, 18, 19, 20, 21, 22, 23, 24, 25, 26, 27, 28, 29, 30]))
  (.cond (.tmp 31) (.ghost (.kill [0, 1, 7, 8, 9, 31]) (.seq (.reg [⟨(some 4), .op (.mv (.const (Value.bool false))), none⟩])
  .ret))
  (.ghost (.kill [31]) .skip)))))
  (.post (.reg [⟨(some 32), .op (.bin .add (.tmp 9) (.const (Value.int .i64 1))), none⟩,
    ⟨(some 9), .op (.mv (.tmp 32)), none⟩]) (.kill [32])))))
def lo_impl_isRising_0 : AC := (.loop lb_impl_isRising_0)
def ac_impl_isRising : AC := (.seq (.post (.reg [⟨(some 4), .op (.mv (.const (Value.bool false))), none⟩]) (.kill [4]))
  (.seq (.seq (.reg [⟨(some 7), .op (.mv (.tmp 0)), none⟩,
    ⟨(some 8), .op (.len false (.tmp 7)), none⟩,
    ⟨(some 9), .op (.mv (.const (Value.int .i64 0))), none⟩])
  (.block 0 lo_impl_isRising_0))
  (.ghost (.kill [0, 1, 7, 8, 9]) (.seq (.reg [⟨(some 4), .op (.mv (.const (Value.bool true))), none⟩])
  .ret))))
theorem cf_impl_isRising : chkFn Try.prog i_impl_isRising ac_impl_isRising [.tmp 4] 33 = true := by decide +kernel
def fa_impl_isRising : FnA := ⟨ac_impl_isRising, [.tmp 4], 33, false, true, [], .any, none⟩

/-- The checked code of impl Push . -/
def ac_impl_size_L_L_impl_Push : AC := (.seq (.post (.reg [⟨(some 2), .op (.mv (.const (Value.int .i64 0))), none⟩]) (.kill [2]))
  (.seq (.post (.reg [⟨(some 3), .op (.mv (.tmp 0)), none⟩,
    ⟨(some 4), .op (.len false (.tmp 3)), none⟩,
    ⟨(some 2), .op (.mv (.tmp 4)), none⟩]) (.kill [0, 3, 4]))
  .ret))
theorem cf_impl_size_L_L_impl_Push : chkFn Try.prog i_impl_size_L_L_impl_Push ac_impl_size_L_L_impl_Push [.tmp 2] 5 = true := by decide +kernel
def fa_impl_size_L_L_impl_Push : FnA := ⟨ac_impl_size_L_L_impl_Push, [.tmp 2], 5, false, true, [], .any, none⟩

/-- The checked code of impl size       int64 . -/
def ac_impl_size_L_L_L_int64 : AC := (.seq (.post (.reg [⟨(some 2), .op (.mv (.const (Value.int .i64 0))), none⟩]) (.kill [2]))
  (.seq (.post (.reg [⟨(some 3), .op (.mv (.tmp 0)), none⟩,
    ⟨(some 4), .op (.len false (.tmp 3)), none⟩,
    ⟨(some 2), .op (.mv (.tmp 4)), none⟩]) (.kill [0, 3, 4]))
  .ret))
theorem cf_impl_size_L_L_L_int64 : chkFn Try.prog i_impl_size_L_L_L_int64 ac_impl_size_L_L_L_int64 [.tmp 2] 5 = true := by decide +kernel
def fa_impl_size_L_L_L_int64 : FnA := ⟨ac_impl_size_L_L_L_int64, [.tmp 2], 5, false, true, [], .any, none⟩

/-- The checked code of cmp Or int . -/
def lb_cmp_Or_int_0 : AC := (.seq (.reg [⟨(some 9), .op (.bin .lss (.tmp 8) (.tmp 7)), none⟩])
  (.seq (.cond (.tmp 9) (.ghost (.kill [9]) .skip)
  (.ghost (.kill [6, 7, 8, 9]) (.exit 0)))
  (.seq (.block 1 (.seq (.post (.reg [⟨(some 10), .op (.iaddrS (.tmp 6) (.tmp 8) 1), none⟩,
    ⟨(some 11), .op (.load 1 false (.tmp 10)), none⟩,
    ⟨(some 5), .op (.mv (.tmp 11)), none⟩]) (.kill [10, 11]))
  (.seq (.post (.reg [⟨(some 12), .op (.mv (.tmp 5)), none⟩,
    ⟨(some 13), .op (.mv (.tmp 3)), none⟩,
    ⟨(some 14), .op (.bin .neq (.tmp 12) (.tmp 13)), none⟩]) (.kill [12, 13]))
  (.cond (.tmp 14) (.ghost (.kill [3, 6, 7, 8, 14]) (.seq (.post (.reg [⟨(some 15), .op (.mv (.tmp 5)), none⟩,
    ⟨(some 2), .op (.mv (.tmp 15)), none⟩]) (.kill [5, 15]))
  .ret))
  (.ghost (.kill [5, 14]) .skip)))))
  (.post (.reg [⟨(some 16), .op (.bin .add (.tmp 8) (.const (Value.int .i64 1))), none⟩,
    ⟨(some 8), .op (.mv (.tmp 16)), none⟩]) (.kill [16])))))
def lo_cmp_Or_int_0 : AC := (.loop lb_cmp_Or_int_0)
def ac_cmp_Or_int : AC := (.seq (.post (.reg [⟨(some 2), .op (.mv (.const (Value.int .i64 0))), none⟩]) (.kill [2]))
  (.seq (.reg [⟨(some 3), .op (.mv (.const (Value.int .i64 0))), none⟩])
  (.seq (.seq (.post (.reg [⟨(some 6), .op (.mv (.tmp 0)), none⟩,
    ⟨(some 7), .op (.len false (.tmp 6)), none⟩,
    ⟨(some 8), .op (.mv (.const (Value.int .i64 0))), none⟩]) (.kill [0]))
  (.block 0 lo_cmp_Or_int_0))
  (.ghost (.kill [6, 7, 8]) (.seq (.post (.reg [⟨(some 17), .op (.mv (.tmp 3)), none⟩,
    ⟨(some 2), .op (.mv (.tmp 17)), none⟩]) (.kill [3, 17]))
  .ret)))))
theorem cf_cmp_Or_int : chkFn Try.prog i_cmp_Or_int ac_cmp_Or_int [.tmp 2] 18 = true := by decide +kernel
def fa_cmp_Or_int : FnA := ⟨ac_cmp_Or_int, [.tmp 2], 18, false, true, [], .any, none⟩

/-- The checked code of cmp isNaN int64 . -/
def ac_cmp_isNaN_int64 : AC := (.seq (.post (.reg [⟨(some 2), .op (.mv (.const (Value.bool false))), none⟩]) (.kill [2]))
  (.seq (.post (.reg [⟨(some 3), .op (.mv (.tmp 0)), none⟩,
    ⟨(some 4), .op (.mv (.tmp 0)), none⟩,
    ⟨(some 5), .op (.bin .neq (.tmp 3) (.tmp 4)), none⟩,
    ⟨(some 2), .op (.mv (.tmp 5)), none⟩]) (.kill [0, 3, 4, 5]))
  .ret))
theorem cf_cmp_isNaN_int64 : chkFn Try.prog i_cmp_isNaN_int64 ac_cmp_isNaN_int64 [.tmp 2] 6 = true := by decide +kernel
def fa_cmp_isNaN_int64 : FnA := ⟨ac_cmp_isNaN_int64, [.tmp 2], 6, false, true, [], .any, none⟩

/-- The checked code of cmp Compare int64 . -/
def ac_cmp_Compare_int64 : AC := (.seq (.post (.reg [⟨(some 4), .op (.mv (.const (Value.int .i64 0))), none⟩]) (.kill [4]))
  (.seq (.post (.reg [⟨(some 7), .op (.mv (.tmp 0)), none⟩,
    ⟨(some 8), .call (.func i_cmp_isNaN_int64) [(.tmp 7)], none⟩,
    ⟨(some 5), .op (.mv (.tmp 8)), none⟩]) (.kill [7, 8]))
  (.seq (.post (.reg [⟨(some 9), .op (.mv (.tmp 1)), none⟩,
    ⟨(some 10), .call (.func i_cmp_isNaN_int64) [(.tmp 9)], none⟩,
    ⟨(some 6), .op (.mv (.tmp 10)), none⟩]) (.kill [9, 10]))
  (.seq (.seq (.post (.reg [⟨(some 11), .op (.mv (.tmp 5)), none⟩]) (.kill [5]))
  (.cond (.tmp 11) (.ghost (.kill [0, 1, 11]) (.seq (.seq (.post (.reg [⟨(some 12), .op (.mv (.tmp 6)), none⟩]) (.kill [6]))
  (.cond (.tmp 12) (.ghost (.kill [12]) (.seq (.reg [⟨(some 4), .op (.mv (.const (Value.int .i64 0))), none⟩])
  .ret))
  (.ghost (.kill [12]) .skip)))
  (.seq (.reg [⟨(some 4), .op (.mv (.const (Value.int .i64 (-1)))), none⟩])
  .ret)))
  (.ghost (.kill [11]) .skip)))
  (.seq (.seq (.post (.reg [⟨(some 13), .op (.mv (.tmp 6)), none⟩]) (.kill [6]))
  (.cond (.tmp 13) (.ghost (.kill [0, 1, 13]) (.seq (.reg [⟨(some 4), .op (.mv (.const (Value.int .i64 1))), none⟩])
  .ret))
  (.ghost (.kill [13]) .skip)))
  (.seq (.seq (.post (.reg [⟨(some 14), .op (.mv (.tmp 0)), none⟩,
    ⟨(some 15), .op (.mv (.tmp 1)), none⟩,
    ⟨(some 16), .op (.bin .lss (.tmp 14) (.tmp 15)), none⟩]) (.kill [14, 15]))
  (.cond (.tmp 16) (.ghost (.kill [0, 1, 16]) (.seq (.reg [⟨(some 4), .op (.mv (.const (Value.int .i64 (-1)))), none⟩])
  .ret))
  (.ghost (.kill [16]) .skip)))
  (.seq (.seq (.post (.reg [⟨(some 17), .op (.mv (.tmp 0)), none⟩,
    ⟨(some 18), .op (.mv (.tmp 1)), none⟩,
    ⟨(some 19), .op (.bin .gtr (.tmp 17) (.tmp 18)), none⟩]) (.kill [0, 1, 17, 18]))
  (.cond (.tmp 19) (.ghost (.kill [19]) (.seq (.reg [⟨(some 4), .op (.mv (.const (Value.int .i64 1))), none⟩])
  .ret))
  (.ghost (.kill [19]) .skip)))
  (.seq (.reg [⟨(some 4), .op (.mv (.const (Value.int .i64 0))), none⟩])
  .ret))))))))
theorem cf_cmp_Compare_int64 : chkFn Try.prog i_cmp_Compare_int64 ac_cmp_Compare_int64 [.tmp 4] 20 = true := by decide +kernel
def fa_cmp_Compare_int64 : FnA := ⟨ac_cmp_Compare_int64, [.tmp 4], 20, false, true, [], .any, none⟩

/-- The checked code of impl comparePushes. -/
def ac_impl_comparePushes : AC := (.seq (.post (.reg [⟨(some 2), .op (.box true (.tmp 0)), none⟩,
    ⟨(some 3), .op (.box true (.tmp 1)), none⟩,
    ⟨(some 4), .op (.mv (.const (Value.int .i64 0))), none⟩]) (.kill [0, 1, 4]))
  (.seq (.post (.draw [⟨0, ⟨(some 5), .op (.faddr (.tmp 2) 0), none⟩, []⟩,
    ⟨1, ⟨(some 6), .op (.load 1 false (.tmp 5)), none⟩, []⟩,
    ⟨2, ⟨(some 7), .op (.faddr (.tmp 3) 0), none⟩, []⟩,
    ⟨3, ⟨(some 8), .op (.load 1 false (.tmp 7)), none⟩, []⟩,
    ⟨5, ⟨(some 10), .op (.faddr (.tmp 2) 1), none⟩, []⟩,
    ⟨6, ⟨(some 11), .op (.load 1 false (.tmp 10)), none⟩, []⟩,
    ⟨7, ⟨(some 12), .op (.faddr (.tmp 3) 1), none⟩, []⟩,
    ⟨8, ⟨(some 13), .op (.load 1 false (.tmp 12)), none⟩, []⟩,
    ⟨4, ⟨(some 9), .call (.func i_cmp_Compare_int64) [(.tmp 6), (.tmp 8)], none⟩, [6, 8]⟩,
    ⟨9, ⟨(some 14), .call (.func i_cmp_Compare_int64) [(.tmp 11), (.tmp 13)], none⟩, []⟩,
    ⟨10, ⟨(some 15), .op (.lits false 1 2 (Value.int .i64 0) [(0, (.tmp 9)), (1, (.tmp 14))]), none⟩, []⟩,
    ⟨11, ⟨(some 16), .call (.func i_cmp_Or_int) [(.tmp 15)], none⟩, []⟩,
    ⟨12, ⟨(some 4), .op (.mv (.tmp 16)), none⟩, []⟩]
    [0, 1, 0, 4, 15, 0, 32, 0, 128, 511, 1023, 2047, 4095]) (.kill [2, 3, 5, 6, 7, 8, 9, 10, 11, 12, 13, 14, 15, 16]))
  .ret))
theorem cf_impl_comparePushes : chkFn Try.prog i_impl_comparePushes ac_impl_comparePushes [.tmp 4] 17 = true := by decide +kernel
def fa_impl_comparePushes : FnA := ⟨ac_impl_comparePushes, [.tmp 4], 17, false, true, [], .any, none⟩

/-- The checked code of slices IndexFunc     int64   int64 . -/
def lb_slices_IndexFunc_L_L_int64_0 : AC := (.seq (.reg [⟨(some 9), .op (.bin .lss (.tmp 8) (.tmp 7)), none⟩])
  (.seq (.cond (.tmp 9) (.ghost (.kill [9]) .skip)
  (.ghost (.kill [0, 1, 7, 8, 9]) (.exit 0)))
  (.seq (.block 1 (.seq (.post (.reg [⟨(some 10), .op (.mv (.tmp 8)), none⟩,
    ⟨(some 5), .op (.mv (.tmp 10)), none⟩]) (.kill [10]))
  (.seq (.post (.reg [⟨(some 11), .op (.mv (.tmp 1)), none⟩,
    ⟨(some 12), .op (.mv (.tmp 0)), none⟩,
    ⟨(some 13), .op (.mv (.tmp 5)), none⟩,
    ⟨(some 14), .op (.iaddrS (.tmp 12) (.tmp 13) 1), none⟩,
    ⟨(some 15), .op (.load 1 false (.tmp 14)), none⟩,
    ⟨(some 16), .call (.tmp 11) [(.tmp 15)], none⟩]) (.kill [11, 12, 13, 14, 15]))
  (.cond (.tmp 16) (.ghost (.kill [0, 1, 7, 8, 16]) (.seq (.post (.reg [⟨(some 17), .op (.mv (.tmp 5)), none⟩,
    ⟨(some 4), .op (.mv (.tmp 17)), none⟩]) (.kill [5, 17]))
  .ret))
  (.ghost (.kill [5, 16]) .skip)))))
  (.post (.reg [⟨(some 18), .op (.bin .add (.tmp 8) (.const (Value.int .i64 1))), none⟩,
    ⟨(some 8), .op (.mv (.tmp 18)), none⟩]) (.kill [18])))))
def lo_slices_IndexFunc_L_L_int64_0 : AC := (.loop lb_slices_IndexFunc_L_L_int64_0)
def ac_slices_IndexFunc_L_L_int64 : AC := (.seq (.post (.reg [⟨(some 4), .op (.mv (.const (Value.int .i64 0))), none⟩]) (.kill [4]))
  (.seq (.seq (.post (.reg [⟨(some 6), .op (.mv (.tmp 0)), none⟩,
    ⟨(some 7), .op (.len false (.tmp 6)), none⟩,
    ⟨(some 8), .op (.mv (.const (Value.int .i64 0))), none⟩]) (.kill [6]))
  (.block 0 lo_slices_IndexFunc_L_L_int64_0))
  (.ghost (.kill [0, 1, 7, 8]) (.seq (.reg [⟨(some 4), .op (.mv (.const (Value.int .i64 (-1)))), none⟩])
  .ret))))
theorem cf_slices_IndexFunc_L_L_int64 : chkFn Try.prog i_slices_IndexFunc_L_L_int64 ac_slices_IndexFunc_L_L_int64 [.tmp 4] 19 = true := by decide +kernel
def fa_slices_IndexFunc_L_L_int64 : FnA := ⟨ac_slices_IndexFunc_L_L_int64, [.tmp 4], 19, false, true, [], .any, none⟩

/-- The checked code of slices ContainsFunc     int64   int64 . -/
def ac_slices_ContainsFunc_L_L_int64 : AC := (.seq (.post (.reg [⟨(some 4), .op (.mv (.const (Value.bool false))), none⟩]) (.kill [4]))
  (.seq (.post (.reg [⟨(some 5), .op (.mv (.tmp 0)), none⟩,
    ⟨(some 6), .op (.mv (.tmp 1)), none⟩,
    ⟨(some 7), .call (.func i_slices_IndexFunc_L_L_int64) [(.tmp 5), (.tmp 6)], none⟩,
    ⟨(some 8), .op (.bin .geq (.tmp 7) (.const (Value.int .i64 0))), none⟩,
    ⟨(some 4), .op (.mv (.tmp 8)), none⟩]) (.kill [0, 1, 5, 6, 7, 8]))
  .ret))
theorem cf_slices_ContainsFunc_L_L_int64 : chkFn Try.prog i_slices_ContainsFunc_L_L_int64 ac_slices_ContainsFunc_L_L_int64 [.tmp 4] 9 = true := by decide +kernel
def fa_slices_ContainsFunc_L_L_int64 : FnA := ⟨ac_slices_ContainsFunc_L_L_int64, [.tmp 4], 9, false, true, [], .any, none⟩

/-- The checked code of impl ValidChoices 1. -/
def ac_impl_ValidChoices_1 : AC := (.seq (.post (.reg [⟨(some 3), .op (.mv (.const (Value.bool false))), none⟩]) (.kill [3]))
  (.seq (.post (.reg [⟨(some 4), .op (.mv (.tmp 0)), none⟩,
    ⟨(some 5), .op (.load 1 false (.tmp 1)), none⟩,
    ⟨(some 6), .call (.func i_impl_isRising) [(.tmp 4), (.tmp 5)], none⟩,
    ⟨(some 7), .op (.un .not (.tmp 6)), none⟩,
    ⟨(some 3), .op (.mv (.tmp 7)), none⟩]) (.kill [0, 1, 4, 5, 6, 7]))
  .ret))
theorem cf_impl_ValidChoices_1 : chkFn Try.prog i_impl_ValidChoices_1 ac_impl_ValidChoices_1 [.tmp 3] 8 = true := by decide +kernel
def fa_impl_ValidChoices_1 : FnA := ⟨ac_impl_ValidChoices_1, [.tmp 3], 8, false, true, [], .any, none⟩

/-- The checked code of impl ValidChoices. -/
def lb_impl_ValidChoices_0 : AC := (.post (.seq (.reg [⟨(some 90), .op (.bin .lss (.tmp 89) (.tmp 88)), none⟩])
  (.seq (.cond (.tmp 90) (.ghost (.kill [90]) .skip)
  (.ghost (.kill [87, 88, 89, 90]) (.exit 4)))
  (.seq (.block 5 (.seq (.post (.reg [⟨(some 91), .op (.mv (.tmp 89)), none⟩,
    ⟨(some 92), .op (.iaddrS (.tmp 87) (.tmp 89) 2), none⟩,
    ⟨(some 93), .op (.load 2 true (.tmp 92)), none⟩,
    ⟨(some 7), .op (.alloc (Value.agg #[Value.int .i64 0, Value.int .i64 0])), none⟩,
    ⟨(some 6), .op (.mv (.tmp 91)), none⟩,
    ⟨none, .op (.store 2 (.tmp 7) (.tmp 93)), none⟩]) (.kill [91, 92, 93]))
  (.seq (.post (.draw [⟨0, ⟨(some 94), .op (.faddr (.tmp 7) 0), none⟩, []⟩,
    ⟨1, ⟨(some 95), .op (.load 1 false (.tmp 94)), none⟩, []⟩,
    ⟨2, ⟨(some 96), .op (.load 1 false (.tmp 3)), none⟩, []⟩,
    ⟨3, ⟨(some 97), .op (.bin .sub (.tmp 96) (.const (Value.int .i64 1))), none⟩, []⟩,
    ⟨4, ⟨(some 98), .call (.func i_impl_within) [(.tmp 95), (.const (Value.int .i64 0)), (.tmp 97)], none⟩, []⟩,
    ⟨5, ⟨(some 99), .op (.un .not (.tmp 98)), none⟩, []⟩,
    ⟨6, ⟨(some 100), .op (.mv (.tmp 99)), none⟩, []⟩,
    ⟨7, ⟨(some 101), .op (.faddr (.tmp 7) 1), some (100, false)⟩, []⟩,
    ⟨8, ⟨(some 102), .op (.load 1 false (.tmp 101)), some (100, false)⟩, []⟩,
    ⟨9, ⟨(some 103), .op (.faddr (.tmp 1) 0), some (100, false)⟩, []⟩,
    ⟨10, ⟨(some 104), .op (.load 1 false (.tmp 103)), some (100, false)⟩, []⟩,
    ⟨11, ⟨(some 105), .op (.bin .sub (.tmp 104) (.const (Value.int .i64 1))), some (100, false)⟩, []⟩,
    ⟨12, ⟨(some 106), .call (.func i_impl_within) [(.tmp 102), (.const (Value.int .i64 0)), (.tmp 105)], some (100, false)⟩, []⟩,
    ⟨13, ⟨(some 107), .op (.un .not (.tmp 106)), some (100, false)⟩, []⟩,
    ⟨14, ⟨(some 108), .op (.pick (.tmp 100) (.const (Value.bool true)) (.tmp 107)), none⟩, []⟩,
    ⟨15, ⟨(some 109), .op (.mv (.tmp 108)), none⟩, []⟩,
    ⟨16, ⟨(some 110), .op (.mv (.tmp 6)), some (109, false)⟩, []⟩,
    ⟨17, ⟨(some 111), .op (.bin .gtr (.tmp 110) (.const (Value.int .i64 0))), some (109, false)⟩, []⟩,
    ⟨18, ⟨(some 112), .op (.mv (.tmp 111)), some (109, false)⟩, []⟩,
    ⟨19, ⟨(some 113), .op (.faddr (.tmp 1) 3), some (112, true)⟩, []⟩,
    ⟨20, ⟨(some 114), .op (.load 1 false (.tmp 113)), some (112, true)⟩, []⟩,
    ⟨21, ⟨(some 115), .op (.mv (.tmp 4)), some (112, true)⟩, []⟩,
    ⟨22, ⟨(some 116), .op (.iaddrS (.tmp 114) (.tmp 115) 1), some (112, true)⟩, []⟩,
    ⟨23, ⟨(some 117), .op (.load 1 false (.tmp 116)), some (112, true)⟩, []⟩,
    ⟨24, ⟨(some 118), .op (.mv (.tmp 5)), some (112, true)⟩, []⟩,
    ⟨25, ⟨(some 119), .op (.iaddrS (.tmp 117) (.tmp 118) 1), some (112, true)⟩, []⟩,
    ⟨26, ⟨(some 120), .op (.load 1 false (.tmp 119)), some (112, true)⟩, []⟩,
    ⟨27, ⟨(some 121), .op (.mv (.tmp 6)), some (112, true)⟩, []⟩,
    ⟨28, ⟨(some 122), .op (.bin .sub (.tmp 121) (.const (Value.int .i64 1))), some (112, true)⟩, []⟩,
    ⟨29, ⟨(some 123), .op (.iaddrS (.tmp 120) (.tmp 122) 2), some (112, true)⟩, []⟩,
    ⟨30, ⟨(some 124), .op (.load 2 true (.tmp 123)), some (112, true)⟩, []⟩,
    ⟨31, ⟨(some 125), .op (.load 2 true (.tmp 7)), some (112, true)⟩, []⟩,
    ⟨32, ⟨(some 126), .call (.func i_impl_comparePushes) [(.tmp 124), (.tmp 125)], some (112, true)⟩, []⟩,
    ⟨33, ⟨(some 127), .op (.bin .geq (.tmp 126) (.const (Value.int .i64 0))), some (112, true)⟩, []⟩,
    ⟨34, ⟨(some 128), .op (.pick (.tmp 112) (.tmp 127) (.const (Value.bool false))), some (109, false)⟩, []⟩,
    ⟨35, ⟨(some 129), .op (.pick (.tmp 109) (.const (Value.bool true)) (.tmp 128)), none⟩, []⟩]
    [0, 1, 0, 4, 15, 31, 63, 127, 255, 127, 639, 1663, 4095, 8191, 16383, 32767, 65535, 131071, 262143, 524287, 1048575, 524287, 4194303, 8388607, 524287, 33554431, 67108863, 524287, 134742015, 536870911, 1073741823, 524287, 4294967295, 8589934591, 17179869183, 34359738367]) (.kill [6, 7, 94, 95, 96, 97, 98, 99, 100, 101, 102, 103, 104, 105, 106, 107, 108, 109, 110, 111, 112, 113, 114, 115, 116, 117, 118, 119, 120, 121, 122, 123, 124, 125, 126, 127, 128]))
  (.cond (.tmp 129) (.ghost (.kill [1, 3, 4, 5, 48, 49, 77, 87, 88, 89, 129]) (.seq (.reg [⟨(some 2), .op (.mv (.const (Value.bool false))), none⟩])
  .ret))
  (.ghost (.kill [129]) .skip)))))
  (.post (.reg [⟨(some 130), .op (.bin .add (.tmp 89) (.const (Value.int .i64 1))), none⟩,
    ⟨(some 89), .op (.mv (.tmp 130)), none⟩]) (.kill [130]))))) .nv)
def lo_impl_ValidChoices_0 : AC := (.loop lb_impl_ValidChoices_0)
def lb_impl_ValidChoices_1 : AC := (.post (.seq (.reg [⟨(some 78), .op (.bin .lss (.tmp 77) (.const (Value.int .i64 2))), none⟩])
  (.seq (.cond (.tmp 78) (.ghost (.kill [78]) .skip)
  (.ghost (.kill [4, 77, 78]) (.exit 2)))
  (.seq (.block 3 (.seq (.post (.reg [⟨(some 79), .op (.mv (.tmp 77)), none⟩,
    ⟨(some 5), .op (.mv (.tmp 79)), none⟩]) (.kill [79]))
  (.seq (.seq (.post (.reg [⟨(some 80), .op (.faddr (.tmp 1) 3), none⟩,
    ⟨(some 81), .op (.load 1 false (.tmp 80)), none⟩,
    ⟨(some 82), .op (.mv (.tmp 4)), none⟩,
    ⟨(some 83), .op (.iaddrS (.tmp 81) (.tmp 82) 1), none⟩,
    ⟨(some 84), .op (.load 1 false (.tmp 83)), none⟩,
    ⟨(some 85), .op (.mv (.tmp 5)), none⟩,
    ⟨(some 86), .op (.iaddrS (.tmp 84) (.tmp 85) 1), none⟩,
    ⟨(some 87), .op (.load 1 false (.tmp 86)), none⟩,
    ⟨(some 88), .op (.len false (.tmp 87)), none⟩,
    ⟨(some 89), .op (.mv (.const (Value.int .i64 0))), none⟩]) (.kill [80, 81, 82, 83, 84, 85, 86]))
  (.post (.block 4 (.ghost .nv lo_impl_ValidChoices_0)) .nv))
  (.ghost (.kill [87, 88, 89]) (.seq (.post (.draw [⟨0, ⟨(some 131), .op (.faddr (.tmp 1) 5), none⟩, []⟩,
    ⟨1, ⟨(some 132), .op (.load 1 false (.tmp 131)), none⟩, []⟩,
    ⟨2, ⟨(some 133), .op (.mv (.tmp 4)), none⟩, []⟩,
    ⟨3, ⟨(some 134), .op (.iaddrS (.tmp 132) (.tmp 133) 1), none⟩, []⟩,
    ⟨4, ⟨(some 135), .op (.load 1 false (.tmp 134)), none⟩, []⟩,
    ⟨5, ⟨(some 136), .op (.mv (.tmp 5)), none⟩, []⟩,
    ⟨6, ⟨(some 137), .op (.iaddrS (.tmp 135) (.tmp 136) 1), none⟩, []⟩,
    ⟨7, ⟨(some 138), .op (.load 1 false (.tmp 137)), none⟩, []⟩,
    ⟨8, ⟨(some 139), .op (.load 1 false (.tmp 3)), none⟩, []⟩,
    ⟨9, ⟨(some 140), .call (.func i_impl_isRising) [(.tmp 138), (.tmp 139)], none⟩, []⟩,
    ⟨10, ⟨(some 141), .op (.un .not (.tmp 140)), none⟩, []⟩,
    ⟨11, ⟨(some 142), .op (.mv (.tmp 141)), none⟩, []⟩,
    ⟨12, ⟨(some 143), .op (.faddr (.tmp 1) 4), some (142, false)⟩, []⟩,
    ⟨13, ⟨(some 144), .op (.load 1 false (.tmp 143)), some (142, false)⟩, []⟩,
    ⟨14, ⟨(some 145), .op (.mv (.tmp 4)), some (142, false)⟩, []⟩,
    ⟨15, ⟨(some 146), .op (.iaddrS (.tmp 144) (.tmp 145) 1), some (142, false)⟩, []⟩,
    ⟨16, ⟨(some 147), .op (.load 1 false (.tmp 146)), some (142, false)⟩, []⟩,
    ⟨17, ⟨(some 148), .op (.mv (.tmp 5)), some (142, false)⟩, []⟩,
    ⟨18, ⟨(some 149), .op (.iaddrS (.tmp 147) (.tmp 148) 1), some (142, false)⟩, []⟩,
    ⟨19, ⟨(some 150), .op (.load 1 false (.tmp 149)), some (142, false)⟩, []⟩,
    ⟨21, ⟨(some 152), .op (.faddr (.tmp 1) 0), some (142, false)⟩, []⟩,
    ⟨22, ⟨(some 153), .op (.load 1 false (.tmp 152)), some (142, false)⟩, []⟩,
    ⟨23, ⟨(some 154), .op (.bin .add (.tmp 153) (.const (Value.int .i64 1))), some (142, false)⟩, []⟩,
    ⟨20, ⟨(some 151), .call (.func i_impl_size_L_int64) [(.tmp 150)], some (142, false)⟩, [22]⟩,
    ⟨24, ⟨(some 155), .op (.bin .neq (.tmp 151) (.tmp 154)), some (142, false)⟩, []⟩,
    ⟨25, ⟨(some 156), .op (.pick (.tmp 142) (.const (Value.bool true)) (.tmp 155)), none⟩, []⟩,
    ⟨26, ⟨(some 157), .op (.mv (.tmp 156)), none⟩, []⟩,
    ⟨27, ⟨(some 158), .op (.faddr (.tmp 1) 4), some (157, false)⟩, []⟩,
    ⟨28, ⟨(some 159), .op (.load 1 false (.tmp 158)), some (157, false)⟩, []⟩,
    ⟨29, ⟨(some 160), .op (.mv (.tmp 4)), some (157, false)⟩, []⟩,
    ⟨30, ⟨(some 161), .op (.iaddrS (.tmp 159) (.tmp 160) 1), some (157, false)⟩, []⟩,
    ⟨31, ⟨(some 162), .op (.load 1 false (.tmp 161)), some (157, false)⟩, []⟩,
    ⟨32, ⟨(some 163), .op (.mv (.tmp 5)), some (157, false)⟩, []⟩,
    ⟨33, ⟨(some 164), .op (.iaddrS (.tmp 162) (.tmp 163) 1), some (157, false)⟩, []⟩,
    ⟨34, ⟨(some 165), .op (.load 1 false (.tmp 164)), some (157, false)⟩, []⟩,
    ⟨35, ⟨(some 166), .op (.mkfn i_impl_ValidChoices_1 [(.tmp 3)]), some (157, false)⟩, []⟩,
    ⟨36, ⟨(some 167), .call (.func i_slices_ContainsFunc_L_L_int64) [(.tmp 165), (.tmp 166)], some (157, false)⟩, []⟩,
    ⟨37, ⟨(some 168), .op (.pick (.tmp 157) (.const (Value.bool true)) (.tmp 167)), none⟩, []⟩]
    [0, 1, 0, 7, 15, 0, 63, 127, 0, 511, 1023, 2047, 4095, 8191, 4095, 32767, 65535, 4095, 262143, 524287, 1048575, 4095, 2101247, 6295551, 16777215, 33554431, 67108863, 134217727, 268435455, 134217727, 1073741823, 2147483647, 134217727, 8589934591, 17179869183, 134217727, 68719476735, 137438953471]) (.kill [5, 131, 132, 133, 134, 135, 136, 137, 138, 139, 140, 141, 142, 143, 144, 145, 146, 147, 148, 149, 150, 151, 152, 153, 154, 155, 156, 157, 158, 159, 160, 161, 162, 163, 164, 165, 166, 167]))
  (.cond (.tmp 168) (.ghost (.kill [1, 3, 4, 48, 49, 77, 168]) (.seq (.reg [⟨(some 2), .op (.mv (.const (Value.bool false))), none⟩])
  .ret))
  (.ghost (.kill [168]) .skip)))))))
  (.post (.reg [⟨(some 169), .op (.bin .add (.tmp 77) (.const (Value.int .i64 1))), none⟩,
    ⟨(some 77), .op (.mv (.tmp 169)), none⟩]) (.kill [169]))))) .nv)
def lo_impl_ValidChoices_1 : AC := (.loop lb_impl_ValidChoices_1)
def lb_impl_ValidChoices_2 : AC := (.post (.seq (.reg [⟨(some 50), .op (.bin .lss (.tmp 49) (.tmp 48)), none⟩])
  (.seq (.cond (.tmp 50) (.ghost (.kill [50]) .skip)
  (.ghost (.kill [1, 3, 48, 49, 50]) (.exit 0)))
  (.seq (.block 1 (.seq (.post (.reg [⟨(some 51), .op (.mv (.tmp 49)), none⟩,
    ⟨(some 4), .op (.mv (.tmp 51)), none⟩]) (.kill [51]))
  (.seq (.seq (.post (.reg [⟨(some 52), .op (.faddr (.tmp 1) 3), none⟩,
    ⟨(some 53), .op (.load 1 false (.tmp 52)), none⟩,
    ⟨(some 54), .op (.mv (.tmp 4)), none⟩,
    ⟨(some 55), .op (.iaddrS (.tmp 53) (.tmp 54) 1), none⟩,
    ⟨(some 56), .op (.load 1 false (.tmp 55)), none⟩,
    ⟨(some 57), .op (.len false (.tmp 56)), none⟩,
    ⟨(some 58), .op (.bin .neq (.tmp 57) (.const (Value.int .i64 2))), none⟩,
    ⟨(some 59), .op (.mv (.tmp 58)), none⟩,
    ⟨(some 60), .op (.faddr (.tmp 1) 4), some (59, false)⟩,
    ⟨(some 61), .op (.load 1 false (.tmp 60)), some (59, false)⟩,
    ⟨(some 62), .op (.mv (.tmp 4)), some (59, false)⟩,
    ⟨(some 63), .op (.iaddrS (.tmp 61) (.tmp 62) 1), some (59, false)⟩,
    ⟨(some 64), .op (.load 1 false (.tmp 63)), some (59, false)⟩,
    ⟨(some 65), .op (.len false (.tmp 64)), some (59, false)⟩,
    ⟨(some 66), .op (.bin .neq (.tmp 65) (.const (Value.int .i64 2))), some (59, false)⟩,
    ⟨(some 67), .op (.pick (.tmp 59) (.const (Value.bool true)) (.tmp 66)), none⟩,
    ⟨(some 68), .op (.mv (.tmp 67)), none⟩,
    ⟨(some 69), .op (.faddr (.tmp 1) 5), some (68, false)⟩,
    ⟨(some 70), .op (.load 1 false (.tmp 69)), some (68, false)⟩,
    ⟨(some 71), .op (.mv (.tmp 4)), some (68, false)⟩,
    ⟨(some 72), .op (.iaddrS (.tmp 70) (.tmp 71) 1), some (68, false)⟩,
    ⟨(some 73), .op (.load 1 false (.tmp 72)), some (68, false)⟩,
    ⟨(some 74), .op (.len false (.tmp 73)), some (68, false)⟩,
    ⟨(some 75), .op (.bin .neq (.tmp 74) (.const (Value.int .i64 2))), some (68, false)⟩,
    ⟨(some 76), .op (.pick (.tmp 68) (.const (Value.bool true)) (.tmp 75)), none⟩]) (.kill [52, 53, 54, 55, 56, 57, 58, 59, 60, 61, 62, 63, 64, 65, 66, 67, 68, 69, 70, 71, 72, 73, 74, 75]))
  (.cond (.tmp 76) (.ghost (.kill [1, 3, 4, 48, 49, 76]) (.seq (.reg [⟨(some 2), .op (.mv (.const (Value.bool false))), none⟩])
  .ret))
  (.ghost (.kill [76]) .skip)))
  (.seq (.reg [⟨(some 77), .op (.mv (.const (Value.int .i64 0))), none⟩])
  (.post (.block 2 (.ghost .nv lo_impl_ValidChoices_1)) .nv)))))
  (.ghost (.kill [4, 77]) (.post (.reg [⟨(some 170), .op (.bin .add (.tmp 49) (.const (Value.int .i64 1))), none⟩,
    ⟨(some 49), .op (.mv (.tmp 170)), none⟩]) (.kill [170])))))) .nv)
def lo_impl_ValidChoices_2 : AC := (.loop lb_impl_ValidChoices_2)
def ac_impl_ValidChoices : AC := (.seq (.post (.reg [⟨(some 1), .op (.box true (.tmp 0)), none⟩,
    ⟨(some 2), .op (.mv (.const (Value.bool false))), none⟩]) (.kill [0, 2]))
  (.seq (.post (.reg [⟨(some 8), .op (.faddr (.tmp 1) 2), none⟩,
    ⟨(some 9), .op (.load 1 false (.tmp 8)), none⟩,
    ⟨(some 10), .call (.func i_impl_size_bool) [(.tmp 9)], none⟩,
    ⟨(some 3), .op (.alloc (Value.int .i64 0)), none⟩,
    ⟨none, .op (.store 1 (.tmp 3) (.tmp 10)), none⟩]) (.kill [8, 9, 10]))
  (.seq (.seq (.post (.draw [⟨0, ⟨(some 11), .op (.load 1 false (.tmp 3)), none⟩, []⟩,
    ⟨1, ⟨(some 12), .call (.func i_impl_within) [(.tmp 11), (.const (Value.int .i64 1)), (.const (Value.int .i64 5))], none⟩, []⟩,
    ⟨2, ⟨(some 13), .op (.un .not (.tmp 12)), none⟩, []⟩,
    ⟨3, ⟨(some 14), .op (.mv (.tmp 13)), none⟩, []⟩,
    ⟨4, ⟨(some 15), .op (.faddr (.tmp 1) 0), some (14, false)⟩, []⟩,
    ⟨5, ⟨(some 16), .op (.load 1 false (.tmp 15)), some (14, false)⟩, []⟩,
    ⟨6, ⟨(some 17), .call (.func i_impl_within) [(.tmp 16), (.const (Value.int .i64 1)), (.const (Value.int .i64 4))], some (14, false)⟩, []⟩,
    ⟨7, ⟨(some 18), .op (.un .not (.tmp 17)), some (14, false)⟩, []⟩,
    ⟨8, ⟨(some 19), .op (.pick (.tmp 14) (.const (Value.bool true)) (.tmp 18)), none⟩, []⟩,
    ⟨9, ⟨(some 20), .op (.mv (.tmp 19)), none⟩, []⟩,
    ⟨10, ⟨(some 21), .op (.faddr (.tmp 1) 1), some (20, false)⟩, []⟩,
    ⟨11, ⟨(some 22), .op (.load 1 false (.tmp 21)), some (20, false)⟩, []⟩,
    ⟨12, ⟨(some 23), .op (.load 1 false (.tmp 3)), some (20, false)⟩, []⟩,
    ⟨13, ⟨(some 24), .call (.func i_impl_isRising) [(.tmp 22), (.tmp 23)], some (20, false)⟩, []⟩,
    ⟨14, ⟨(some 25), .op (.un .not (.tmp 24)), some (20, false)⟩, []⟩,
    ⟨15, ⟨(some 26), .op (.pick (.tmp 20) (.const (Value.bool true)) (.tmp 25)), none⟩, []⟩,
    ⟨16, ⟨(some 27), .op (.mv (.tmp 26)), none⟩, []⟩,
    ⟨17, ⟨(some 28), .op (.faddr (.tmp 1) 3), some (27, false)⟩, []⟩,
    ⟨18, ⟨(some 29), .op (.load 1 false (.tmp 28)), some (27, false)⟩, []⟩,
    ⟨20, ⟨(some 31), .op (.load 1 false (.tmp 3)), some (27, false)⟩, []⟩,
    ⟨19, ⟨(some 30), .call (.func i_impl_size_L_L_impl_Push) [(.tmp 29)], some (27, false)⟩, [20]⟩,
    ⟨21, ⟨(some 32), .op (.bin .neq (.tmp 30) (.tmp 31)), some (27, false)⟩, []⟩,
    ⟨22, ⟨(some 33), .op (.pick (.tmp 27) (.const (Value.bool true)) (.tmp 32)), none⟩, []⟩,
    ⟨23, ⟨(some 34), .op (.mv (.tmp 33)), none⟩, []⟩,
    ⟨24, ⟨(some 35), .op (.faddr (.tmp 1) 4), some (34, false)⟩, []⟩,
    ⟨25, ⟨(some 36), .op (.load 1 false (.tmp 35)), some (34, false)⟩, []⟩,
    ⟨27, ⟨(some 38), .op (.load 1 false (.tmp 3)), some (34, false)⟩, []⟩,
    ⟨26, ⟨(some 37), .call (.func i_impl_size_L_L_L_int64) [(.tmp 36)], some (34, false)⟩, [27]⟩,
    ⟨28, ⟨(some 39), .op (.bin .neq (.tmp 37) (.tmp 38)), some (34, false)⟩, []⟩,
    ⟨29, ⟨(some 40), .op (.pick (.tmp 34) (.const (Value.bool true)) (.tmp 39)), none⟩, []⟩,
    ⟨30, ⟨(some 41), .op (.mv (.tmp 40)), none⟩, []⟩,
    ⟨31, ⟨(some 42), .op (.faddr (.tmp 1) 5), some (41, false)⟩, []⟩,
    ⟨32, ⟨(some 43), .op (.load 1 false (.tmp 42)), some (41, false)⟩, []⟩,
    ⟨34, ⟨(some 45), .op (.load 1 false (.tmp 3)), some (41, false)⟩, []⟩,
    ⟨33, ⟨(some 44), .call (.func i_impl_size_L_L_int64) [(.tmp 43)], some (41, false)⟩, [34]⟩,
    ⟨35, ⟨(some 46), .op (.bin .neq (.tmp 44) (.tmp 45)), some (41, false)⟩, []⟩,
    ⟨36, ⟨(some 47), .op (.pick (.tmp 41) (.const (Value.bool true)) (.tmp 46)), none⟩, []⟩]
    [0, 1, 3, 7, 15, 31, 63, 127, 255, 511, 1023, 2047, 1023, 8191, 16383, 32767, 65535, 131071, 262143, 524287, 131071, 2097151, 4194303, 8388607, 16777215, 33554431, 67108863, 16777215, 268435455, 536870911, 1073741823, 2147483647, 4294967295, 8589934591, 2147483647, 34359738367, 68719476735]) (.kill [11, 12, 13, 14, 15, 16, 17, 18, 19, 20, 21, 22, 23, 24, 25, 26, 27, 28, 29, 30, 31, 32, 33, 34, 35, 36, 37, 38, 39, 40, 41, 42, 43, 44, 45, 46]))
  (.cond (.tmp 47) (.ghost (.kill [1, 3, 47]) (.seq (.reg [⟨(some 2), .op (.mv (.const (Value.bool false))), none⟩])
  .ret))
  (.ghost (.kill [47]) .skip)))
  (.seq (.seq (.reg [⟨(some 48), .op (.load 1 false (.tmp 3)), none⟩,
    ⟨(some 49), .op (.mv (.const (Value.int .i64 0))), none⟩])
  (.post (.block 0 (.ghost .nv lo_impl_ValidChoices_2)) .nv))
  (.ghost (.kill [1, 3, 48, 49]) (.seq (.reg [⟨(some 2), .op (.mv (.const (Value.bool true))), none⟩])
  .ret))))))
theorem cf_impl_ValidChoices : chkFn Try.prog i_impl_ValidChoices ac_impl_ValidChoices [.tmp 2] 171 = true := by decide +kernel
def fa_impl_ValidChoices : FnA := ⟨ac_impl_ValidChoices, [.tmp 2], 171, false, true, [(.agg [.any, (.lst 1 .any), (.lst 1 .any), (.lst 1 (.lst 1 (.lst 2 .any))), (.lst 1 (.lst 1 (.lst 1 (.lst 1 .any)))), (.lst 1 (.lst 1 (.lst 1 .any)))])], .any, none⟩

/-- The checked code of impl raised. -/
def lb_impl_raised_0 : AC := (.seq (.reg [⟨(some 12), .op (.bin .lss (.tmp 11) (.tmp 10)), none⟩])
  (.seq (.cond (.tmp 12) (.ghost (.kill [12]) .skip)
  (.ghost (.kill [1, 9, 10, 11, 12]) (.exit 0)))
  (.seq (.block 1 (.seq (.post (.reg [⟨(some 13), .op (.iaddrS (.tmp 9) (.tmp 11) 1), none⟩,
    ⟨(some 14), .op (.load 1 false (.tmp 13)), none⟩,
    ⟨(some 7), .op (.mv (.tmp 14)), none⟩]) (.kill [13, 14]))
  (.post (.reg [⟨(some 15), .op (.mv (.tmp 5)), none⟩,
    ⟨(some 16), .op (.mv (.tmp 7)), none⟩,
    ⟨(some 17), .op (.mv (.tmp 1)), none⟩,
    ⟨(some 18), .op (.bin .add (.tmp 16) (.tmp 17)), none⟩,
    ⟨(some 19), .op (.lits true 1 1 (Value.int .i64 0) [(0, (.tmp 18))]), none⟩,
    ⟨(some 20), .op (.append (.tmp 15) (.tmp 19) 1 8), none⟩,
    ⟨(some 5), .op (.mv (.tmp 20)), none⟩]) (.kill [7, 15, 16, 17, 18, 19, 20]))))
  (.post (.reg [⟨(some 21), .op (.bin .add (.tmp 11) (.const (Value.int .i64 1))), none⟩,
    ⟨(some 11), .op (.mv (.tmp 21)), none⟩]) (.kill [21])))))
def lo_impl_raised_0 : AC := (.loop lb_impl_raised_0)
def ac_impl_raised : AC := (.seq (.post (.reg [⟨(some 4), .op (.mv (.const (Value.slice none 0 0))), none⟩]) (.kill [4]))
  (.seq (.post (.reg [⟨(some 8), .op (.lits true 1 0 (Value.int .i64 0) []), none⟩,
    ⟨(some 5), .op (.mv (.tmp 8)), none⟩]) (.kill [8]))
  (.seq (.seq (.post (.reg [⟨(some 9), .op (.mv (.tmp 0)), none⟩,
    ⟨(some 10), .op (.len false (.tmp 9)), none⟩,
    ⟨(some 11), .op (.mv (.const (Value.int .i64 0))), none⟩]) (.kill [0]))
  (.block 0 (.ghost (.ow 5 none 1) lo_impl_raised_0)))
  (.ghost (.kill [1, 9, 10, 11]) (.seq (.post (.reg [⟨(some 22), .op (.mv (.tmp 5)), none⟩,
    ⟨(some 4), .op (.mv (.tmp 22)), none⟩]) (.kill [5, 22]))
  .ret)))))
theorem cf_impl_raised : chkFn Try.prog i_impl_raised ac_impl_raised [.tmp 4] 23 = true := by decide +kernel
def fa_impl_raised : FnA := ⟨ac_impl_raised, [.tmp 4], 23, false, false, [], .any, none⟩

/-- The checked code of impl EitherChoices 1. -/
def lb_impl_EitherChoices_1_0 : AC := (.seq (.reg [⟨(some 56), .op (.bin .lss (.tmp 55) (.tmp 54)), none⟩])
  (.seq (.cond (.tmp 56) (.ghost (.kill [56]) .skip)
  (.ghost (.kill [53, 54, 55, 56]) (.exit 4)))
  (.seq (.block 5 (.seq (.post (.reg [⟨(some 57), .op (.iaddrS (.tmp 53) (.tmp 55) 2), none⟩,
    ⟨(some 58), .op (.load 2 true (.tmp 57)), none⟩,
    ⟨(some 14), .op (.alloc (Value.agg #[Value.int .i64 0, Value.int .i64 0])), none⟩,
    ⟨none, .op (.store 2 (.tmp 14) (.tmp 58)), none⟩]) (.kill [57, 58]))
  (.post (.reg [⟨(some 59), .op (.mv (.tmp 12)), none⟩,
    ⟨(some 60), .op (.faddr (.tmp 14) 0), none⟩,
    ⟨(some 61), .op (.load 1 false (.tmp 60)), none⟩,
    ⟨(some 62), .op (.mv (.tmp 1)), none⟩,
    ⟨(some 63), .op (.bin .add (.tmp 61) (.tmp 62)), none⟩,
    ⟨(some 64), .op (.faddr (.tmp 14) 1), none⟩,
    ⟨(some 65), .op (.load 1 false (.tmp 64)), none⟩,
    ⟨(some 66), .op (.mv (.tmp 2)), none⟩,
    ⟨(some 67), .op (.bin .add (.tmp 65) (.tmp 66)), none⟩,
    ⟨(some 68), .op (.build [Value.int .i64 0, Value.int .i64 0] [(0, 1, (.tmp 63)), (1, 1, (.tmp 67))]), none⟩,
    ⟨(some 69), .op (.lits true 2 1 (Value.agg #[Value.int .i64 0, Value.int .i64 0]) [(0, (.tmp 68))]), none⟩,
    ⟨(some 70), .op (.append (.tmp 59) (.tmp 69) 2 16), none⟩,
    ⟨(some 12), .op (.mv (.tmp 70)), none⟩]) (.kill [14, 59, 60, 61, 62, 63, 64, 65, 66, 67, 68, 69, 70]))))
  (.post (.reg [⟨(some 71), .op (.bin .add (.tmp 55) (.const (Value.int .i64 1))), none⟩,
    ⟨(some 55), .op (.mv (.tmp 71)), none⟩]) (.kill [71])))))
def lo_impl_EitherChoices_1_0 : AC := (.loop lb_impl_EitherChoices_1_0)
def lb_impl_EitherChoices_1_1 : AC := (.seq (.reg [⟨(some 86), .op (.bin .lss (.tmp 85) (.tmp 84)), none⟩])
  (.seq (.cond (.tmp 86) (.ghost (.kill [86]) .skip)
  (.ghost (.kill [83, 84, 85, 86]) (.exit 6)))
  (.seq (.block 7 (.seq (.post (.reg [⟨(some 87), .op (.mv (.tmp 85)), none⟩,
    ⟨(some 88), .op (.iaddrS (.tmp 83) (.tmp 85) 1), none⟩,
    ⟨(some 89), .op (.load 1 false (.tmp 88)), none⟩,
    ⟨(some 16), .op (.mv (.tmp 87)), none⟩,
    ⟨(some 17), .op (.mv (.tmp 89)), none⟩]) (.kill [87, 88, 89]))
  (.seq (.post (.reg [⟨(some 90), .op (.mv (.tmp 16)), none⟩,
    ⟨(some 91), .op (.mv (.tmp 2)), none⟩,
    ⟨(some 92), .op (.bin .add (.tmp 90) (.tmp 91)), none⟩,
    ⟨(some 18), .op (.mv (.tmp 92)), none⟩]) (.kill [90, 91, 92]))
  (.seq (.seq (.post (.reg [⟨(some 93), .op (.mv (.tmp 16)), none⟩,
    ⟨(some 94), .op (.faddr (.tmp 4) 0), none⟩,
    ⟨(some 95), .op (.load 1 false (.tmp 94)), none⟩,
    ⟨(some 96), .op (.bin .eql (.tmp 93) (.tmp 95)), none⟩]) (.kill [16, 93, 94, 95]))
  (.cond (.tmp 96) (.ghost (.kill [18, 96]) (.post (.reg [⟨(some 97), .op (.faddr (.tmp 3) 0), none⟩,
    ⟨(some 98), .op (.load 1 false (.tmp 97)), none⟩,
    ⟨(some 18), .op (.mv (.tmp 98)), none⟩]) (.kill [97, 98])))
  (.ghost (.kill [96]) .skip)))
  (.post (.reg [⟨(some 99), .op (.mv (.tmp 15)), none⟩,
    ⟨(some 100), .op (.mv (.tmp 18)), none⟩,
    ⟨(some 101), .op (.mv (.tmp 17)), none⟩,
    ⟨(some 102), .op (.mv (.tmp 1)), none⟩,
    ⟨(some 103), .call (.func i_impl_raised) [(.tmp 101), (.tmp 102)], none⟩,
    ⟨(some 104), .op (.iaddrS (.tmp 99) (.tmp 100) 1), none⟩,
    ⟨none, .op (.store 1 (.tmp 104) (.tmp 103)), none⟩]) (.kill [17, 18, 99, 100, 101, 102, 103, 104]))))))
  (.post (.reg [⟨(some 105), .op (.bin .add (.tmp 85) (.const (Value.int .i64 1))), none⟩,
    ⟨(some 85), .op (.mv (.tmp 105)), none⟩]) (.kill [105])))))
def lo_impl_EitherChoices_1_1 : AC := (.loop lb_impl_EitherChoices_1_1)
def lb_impl_EitherChoices_1_2 : AC := (.seq (.reg [⟨(some 43), .op (.bin .lss (.tmp 42) (.const (Value.int .i64 2))), none⟩])
  (.seq (.cond (.tmp 43) (.ghost (.kill [43]) .skip)
  (.ghost (.kill [7, 42, 43]) (.exit 2)))
  (.seq (.block 3 (.seq (.post (.reg [⟨(some 44), .op (.mv (.tmp 42)), none⟩,
    ⟨(some 11), .op (.mv (.tmp 44)), none⟩]) (.kill [44]))
  (.seq (.post (.reg [⟨(some 45), .op (.lits true 2 0 (Value.agg #[Value.int .i64 0, Value.int .i64 0]) []), none⟩,
    ⟨(some 12), .op (.mv (.tmp 45)), none⟩]) (.kill [45]))
  (.seq (.seq (.post (.reg [⟨(some 46), .op (.faddr (.tmp 4) 3), none⟩,
    ⟨(some 47), .op (.load 1 false (.tmp 46)), none⟩,
    ⟨(some 48), .op (.mv (.tmp 7)), none⟩,
    ⟨(some 49), .op (.iaddrS (.tmp 47) (.tmp 48) 1), none⟩,
    ⟨(some 50), .op (.load 1 false (.tmp 49)), none⟩,
    ⟨(some 51), .op (.mv (.tmp 11)), none⟩,
    ⟨(some 52), .op (.iaddrS (.tmp 50) (.tmp 51) 1), none⟩,
    ⟨(some 53), .op (.load 1 false (.tmp 52)), none⟩,
    ⟨(some 54), .op (.len false (.tmp 53)), none⟩,
    ⟨(some 55), .op (.mv (.const (Value.int .i64 0))), none⟩]) (.kill [46, 47, 48, 49, 50, 51, 52]))
  (.block 4 (.ghost (.ow 3 (some 1) 1) (.ghost (.ow 3 (some 2) 1) (.ghost (.ow 3 (some 3) 1) (.ghost (.ow 3 (some 4) 1) (.ghost (.ow 3 (some 5) 1) (.ghost (.ow 8 none 1) (.ghost (.ow 9 none 1) (.ghost (.ow 10 none 1) (.ghost (.ow 12 none 2) lo_impl_EitherChoices_1_0)))))))))))
  (.ghost (.kill [53, 54, 55]) (.seq (.post (.reg [⟨(some 72), .op (.faddr (.tmp 3) 0), none⟩,
    ⟨(some 73), .op (.load 1 false (.tmp 72)), none⟩,
    ⟨(some 74), .op (.bin .add (.tmp 73) (.const (Value.int .i64 1))), none⟩,
    ⟨(some 75), .op (.make (.tmp 74) (.tmp 74) 1 24 (Value.slice none 0 0)), none⟩,
    ⟨(some 15), .op (.mv (.tmp 75)), none⟩]) (.kill [72, 73, 74, 75]))
  (.seq (.seq (.post (.reg [⟨(some 76), .op (.faddr (.tmp 4) 4), none⟩,
    ⟨(some 77), .op (.load 1 false (.tmp 76)), none⟩,
    ⟨(some 78), .op (.mv (.tmp 7)), none⟩,
    ⟨(some 79), .op (.iaddrS (.tmp 77) (.tmp 78) 1), none⟩,
    ⟨(some 80), .op (.load 1 false (.tmp 79)), none⟩,
    ⟨(some 81), .op (.mv (.tmp 11)), none⟩,
    ⟨(some 82), .op (.iaddrS (.tmp 80) (.tmp 81) 1), none⟩,
    ⟨(some 83), .op (.load 1 false (.tmp 82)), none⟩,
    ⟨(some 84), .op (.len false (.tmp 83)), none⟩,
    ⟨(some 85), .op (.mv (.const (Value.int .i64 0))), none⟩]) (.kill [76, 77, 78, 79, 80, 81, 82]))
  (.block 6 (.ghost (.ow 3 (some 1) 1) (.ghost (.ow 3 (some 2) 1) (.ghost (.ow 3 (some 3) 1) (.ghost (.ow 3 (some 4) 1) (.ghost (.ow 3 (some 5) 1) (.ghost (.ow 8 none 1) (.ghost (.ow 9 none 1) (.ghost (.ow 10 none 1) (.ghost (.ow 12 none 2) lo_impl_EitherChoices_1_1)))))))))))
  (.ghost (.kill [83, 84, 85]) (.post (.draw [⟨0, ⟨(some 106), .op (.mv (.tmp 8)), none⟩, []⟩,
    ⟨1, ⟨(some 107), .op (.mv (.tmp 12)), none⟩, []⟩,
    ⟨2, ⟨(some 108), .op (.lits true 1 1 (Value.slice none 0 0) [(0, (.tmp 107))]), none⟩, []⟩,
    ⟨4, ⟨(some 110), .op (.mv (.tmp 9)), none⟩, []⟩,
    ⟨5, ⟨(some 111), .op (.mv (.tmp 15)), none⟩, []⟩,
    ⟨6, ⟨(some 112), .op (.lits true 1 1 (Value.slice none 0 0) [(0, (.tmp 111))]), none⟩, []⟩,
    ⟨8, ⟨(some 114), .op (.mv (.tmp 10)), none⟩, []⟩,
    ⟨9, ⟨(some 115), .op (.faddr (.tmp 4) 5), none⟩, []⟩,
    ⟨10, ⟨(some 116), .op (.load 1 false (.tmp 115)), none⟩, []⟩,
    ⟨11, ⟨(some 117), .op (.mv (.tmp 7)), none⟩, []⟩,
    ⟨12, ⟨(some 118), .op (.iaddrS (.tmp 116) (.tmp 117) 1), none⟩, []⟩,
    ⟨13, ⟨(some 119), .op (.load 1 false (.tmp 118)), none⟩, []⟩,
    ⟨14, ⟨(some 120), .op (.mv (.tmp 11)), none⟩, []⟩,
    ⟨15, ⟨(some 121), .op (.iaddrS (.tmp 119) (.tmp 120) 1), none⟩, []⟩,
    ⟨16, ⟨(some 122), .op (.load 1 false (.tmp 121)), none⟩, []⟩,
    ⟨17, ⟨(some 123), .op (.mv (.tmp 1)), none⟩, []⟩,
    ⟨3, ⟨(some 109), .op (.append (.tmp 106) (.tmp 108) 1 24), none⟩, [10, 12, 13, 15, 16]⟩,
    ⟨7, ⟨(some 113), .op (.append (.tmp 110) (.tmp 112) 1 24), none⟩, [10, 12, 13, 15, 16]⟩,
    ⟨18, ⟨(some 124), .call (.func i_impl_raised) [(.tmp 122), (.tmp 123)], none⟩, []⟩,
    ⟨19, ⟨(some 125), .op (.lits true 1 1 (Value.slice none 0 0) [(0, (.tmp 124))]), none⟩, []⟩,
    ⟨20, ⟨(some 126), .op (.append (.tmp 114) (.tmp 125) 1 24), none⟩, []⟩,
    ⟨21, ⟨(some 8), .op (.mv (.tmp 109)), none⟩, []⟩,
    ⟨22, ⟨(some 9), .op (.mv (.tmp 113)), none⟩, []⟩,
    ⟨23, ⟨(some 10), .op (.mv (.tmp 126)), none⟩, []⟩]
    [0, 0, 2, 7, 0, 0, 32, 127, 0, 0, 512, 0, 3584, 7680, 0, 32256, 65024, 0, 261887, 524031, 1048575, 2097151, 4194303, 8388607]) (.kill [11, 12, 15, 106, 107, 108, 109, 110, 111, 112, 113, 114, 115, 116, 117, 118, 119, 120, 121, 122, 123, 124, 125, 126]))))))))))
  (.post (.reg [⟨(some 127), .op (.bin .add (.tmp 42) (.const (Value.int .i64 1))), none⟩,
    ⟨(some 42), .op (.mv (.tmp 127)), none⟩]) (.kill [127])))))
def lo_impl_EitherChoices_1_2 : AC := (.loop lb_impl_EitherChoices_1_2)
def lb_impl_EitherChoices_1_3 : AC := (.seq (.reg [⟨(some 37), .op (.bin .lss (.tmp 36) (.tmp 35)), none⟩])
  (.seq (.cond (.tmp 37) (.ghost (.kill [37]) .skip)
  (.ghost (.kill [1, 2, 3, 4, 35, 36, 37]) (.exit 0)))
  (.seq (.block 1 (.seq (.post (.reg [⟨(some 38), .op (.mv (.tmp 36)), none⟩,
    ⟨(some 7), .op (.mv (.tmp 38)), none⟩]) (.kill [38]))
  (.seq (.post (.reg [⟨(some 39), .op (.lits true 1 0 (Value.slice none 0 0) []), none⟩,
    ⟨(some 40), .op (.lits true 1 0 (Value.slice none 0 0) []), none⟩,
    ⟨(some 41), .op (.lits true 1 0 (Value.slice none 0 0) []), none⟩,
    ⟨(some 8), .op (.mv (.tmp 39)), none⟩,
    ⟨(some 9), .op (.mv (.tmp 40)), none⟩,
    ⟨(some 10), .op (.mv (.tmp 41)), none⟩]) (.kill [39, 40, 41]))
  (.seq (.seq (.reg [⟨(some 42), .op (.mv (.const (Value.int .i64 0))), none⟩])
  (.block 2 (.ghost (.ow 3 (some 1) 1) (.ghost (.ow 3 (some 2) 1) (.ghost (.ow 3 (some 3) 1) (.ghost (.ow 3 (some 4) 1) (.ghost (.ow 3 (some 5) 1) (.ghost (.ow 8 none 1) (.ghost (.ow 9 none 1) (.ghost (.ow 10 none 1) lo_impl_EitherChoices_1_2))))))))))
  (.ghost (.kill [7, 42]) (.post (.draw [⟨0, ⟨(some 128), .op (.faddr (.tmp 3) 3), none⟩, []⟩,
    ⟨1, ⟨(some 129), .op (.load 1 false (.tmp 128)), none⟩, []⟩,
    ⟨2, ⟨(some 130), .op (.mv (.tmp 8)), none⟩, []⟩,
    ⟨3, ⟨(some 131), .op (.lits true 1 1 (Value.slice none 0 0) [(0, (.tmp 130))]), none⟩, []⟩,
    ⟨5, ⟨(some 133), .op (.faddr (.tmp 3) 4), none⟩, []⟩,
    ⟨6, ⟨(some 134), .op (.load 1 false (.tmp 133)), none⟩, []⟩,
    ⟨7, ⟨(some 135), .op (.mv (.tmp 9)), none⟩, []⟩,
    ⟨8, ⟨(some 136), .op (.lits true 1 1 (Value.slice none 0 0) [(0, (.tmp 135))]), none⟩, []⟩,
    ⟨10, ⟨(some 138), .op (.faddr (.tmp 3) 5), none⟩, []⟩,
    ⟨11, ⟨(some 139), .op (.load 1 false (.tmp 138)), none⟩, []⟩,
    ⟨12, ⟨(some 140), .op (.mv (.tmp 10)), none⟩, []⟩,
    ⟨13, ⟨(some 141), .op (.lits true 1 1 (Value.slice none 0 0) [(0, (.tmp 140))]), none⟩, []⟩,
    ⟨4, ⟨(some 132), .op (.append (.tmp 129) (.tmp 131) 1 24), none⟩, [6, 11]⟩,
    ⟨15, ⟨(some 143), .op (.faddr (.tmp 3) 3), none⟩, []⟩,
    ⟨9, ⟨(some 137), .op (.append (.tmp 134) (.tmp 136) 1 24), none⟩, [11]⟩,
    ⟨14, ⟨(some 142), .op (.append (.tmp 139) (.tmp 141) 1 24), none⟩, []⟩,
    ⟨16, ⟨none, .op (.store 1 (.tmp 143) (.tmp 132)), none⟩, []⟩,
    ⟨17, ⟨(some 144), .op (.faddr (.tmp 3) 4), none⟩, []⟩,
    ⟨18, ⟨none, .op (.store 1 (.tmp 144) (.tmp 137)), none⟩, []⟩,
    ⟨19, ⟨(some 145), .op (.faddr (.tmp 3) 5), none⟩, []⟩,
    ⟨20, ⟨none, .op (.store 1 (.tmp 145) (.tmp 142)), none⟩, []⟩]
    [0, 1, 0, 4, 15, 0, 32, 0, 128, 511, 0, 1024, 0, 4096, 16383, 3199, 65535, 131071, 262143, 524287, 1048575]) (.kill [8, 9, 10, 128, 129, 130, 131, 132, 133, 134, 135, 136, 137, 138, 139, 140, 141, 142, 143, 144, 145])))))))
  (.post (.reg [⟨(some 146), .op (.bin .add (.tmp 36) (.const (Value.int .i64 1))), none⟩,
    ⟨(some 36), .op (.mv (.tmp 146)), none⟩]) (.kill [146])))))
def lo_impl_EitherChoices_1_3 : AC := (.loop lb_impl_EitherChoices_1_3)
def ac_impl_EitherChoices_1 : AC := (.seq (.post (.reg [⟨(some 4), .op (.box true (.tmp 0)), none⟩]) (.kill [0]))
  (.seq (.post (.draw [⟨0, ⟨(some 19), .op (.faddr (.tmp 3) 1), none⟩, []⟩,
    ⟨1, ⟨(some 20), .op (.load 1 false (.tmp 19)), none⟩, []⟩,
    ⟨2, ⟨(some 21), .op (.faddr (.tmp 4) 1), none⟩, []⟩,
    ⟨3, ⟨(some 22), .op (.load 1 false (.tmp 21)), none⟩, []⟩,
    ⟨4, ⟨(some 23), .op (.mv (.tmp 1)), none⟩, []⟩,
    ⟨5, ⟨(some 24), .call (.func i_impl_raised) [(.tmp 22), (.tmp 23)], none⟩, [1]⟩,
    ⟨6, ⟨(some 25), .op (.append (.tmp 20) (.tmp 24) 1 8), none⟩, []⟩,
    ⟨7, ⟨(some 26), .op (.faddr (.tmp 3) 1), none⟩, []⟩,
    ⟨8, ⟨none, .op (.store 1 (.tmp 26) (.tmp 25)), none⟩, []⟩]
    [0, 1, 0, 4, 0, 28, 63, 127, 255]) (.kill [19, 20, 21, 22, 23, 24, 25, 26]))
  (.seq (.post (.reg [⟨(some 27), .op (.faddr (.tmp 3) 2), none⟩,
    ⟨(some 28), .op (.load 1 false (.tmp 27)), none⟩,
    ⟨(some 29), .op (.faddr (.tmp 4) 2), none⟩,
    ⟨(some 30), .op (.load 1 false (.tmp 29)), none⟩,
    ⟨(some 31), .op (.append (.tmp 28) (.tmp 30) 1 1), none⟩,
    ⟨(some 32), .op (.faddr (.tmp 3) 2), none⟩,
    ⟨none, .op (.store 1 (.tmp 32) (.tmp 31)), none⟩]) (.kill [27, 28, 29, 30, 31, 32]))
  (.seq (.post (.reg [⟨(some 33), .op (.faddr (.tmp 4) 2), none⟩,
    ⟨(some 34), .op (.load 1 false (.tmp 33)), none⟩,
    ⟨(some 35), .op (.len false (.tmp 34)), none⟩,
    ⟨(some 36), .op (.mv (.const (Value.int .i64 0))), none⟩]) (.kill [33, 34]))
  (.block 0 (.ghost (.ow 3 (some 1) 1) (.ghost (.ow 3 (some 2) 1) (.ghost (.ow 3 (some 3) 1) (.ghost (.ow 3 (some 4) 1) (.ghost (.ow 3 (some 5) 1) lo_impl_EitherChoices_1_3))))))))))
theorem cf_impl_EitherChoices_1 : chkFn Try.prog i_impl_EitherChoices_1 ac_impl_EitherChoices_1 [] 147 = true := by decide +kernel
def fa_impl_EitherChoices_1 : FnA := ⟨ac_impl_EitherChoices_1, [], 147, true, false, [], .any, none⟩

/-- The checked code of impl choicesOrLimit. -/
def ac_impl_choicesOrLimit : AC := (.seq (.post (.reg [⟨(some 1), .op (.box false (.tmp 0)), none⟩,
    ⟨(some 2), .op (.alloc (Value.agg #[Value.int .i64 0, Value.slice none 0 0, Value.slice none 0 0, Value.slice none 0 0, Value.slice none 0 0, Value.slice none 0 0])), none⟩,
    ⟨(some 3), .op (.mv (.const (Value.int .i64 0))), none⟩]) (.kill [0, 3]))
  (.seq (.seq (.post (.reg [⟨(some 4), .op (.load 6 true (.tmp 1)), none⟩,
    ⟨(some 5), .call (.func i_impl_ValidChoices) [(.tmp 4)], none⟩,
    ⟨(some 6), .op (.un .not (.tmp 5)), none⟩]) (.kill [4, 5]))
  (.cond (.tmp 6) (.ghost (.kill [1, 6]) (.seq (.post (.reg [⟨(some 7), .op (.build [Value.int .i64 0, Value.slice none 0 0, Value.slice none 0 0, Value.slice none 0 0, Value.slice none 0 0, Value.slice none 0 0] []), none⟩,
    ⟨none, .op (.store 6 (.tmp 2) (.tmp 7)), none⟩,
    ⟨(some 3), .op (.mv (.const (Value.int .i64 3))), none⟩]) (.kill [7]))
  .ret))
  (.ghost (.kill [6]) .skip)))
  (.seq (.post (.reg [⟨(some 8), .op (.load 6 true (.tmp 1)), none⟩,
    ⟨none, .op (.store 6 (.tmp 2) (.tmp 8)), none⟩,
    ⟨(some 3), .op (.mv (.const (Value.int .i64 0))), none⟩]) (.kill [1, 8]))
  .ret)))
theorem cf_impl_choicesOrLimit : chkFn Try.prog i_impl_choicesOrLimit ac_impl_choicesOrLimit [.cell 2 6 true, .tmp 3] 9 = true := by decide +kernel
def fa_impl_choicesOrLimit : FnA := ⟨ac_impl_choicesOrLimit, [.cell 2 6 true, .tmp 3], 9, true, false, [], .any, none⟩

/-- The checked code of impl EitherChoices. -/
def ac_impl_EitherChoices : AC := (.seq (.post (.reg [⟨(some 2), .op (.box true (.tmp 0)), none⟩,
    ⟨(some 3), .op (.box true (.tmp 1)), none⟩,
    ⟨(some 4), .op (.alloc (Value.agg #[Value.int .i64 0, Value.slice none 0 0, Value.slice none 0 0, Value.slice none 0 0, Value.slice none 0 0, Value.slice none 0 0])), none⟩,
    ⟨(some 5), .op (.mv (.const (Value.int .i64 0))), none⟩]) (.kill [0, 1, 5]))
  (.seq (.seq (.post (.reg [⟨(some 8), .op (.load 6 true (.tmp 2)), none⟩,
    ⟨(some 9), .call (.func i_impl_ValidChoices) [(.tmp 8)], none⟩,
    ⟨(some 10), .op (.un .not (.tmp 9)), none⟩,
    ⟨(some 11), .op (.mv (.tmp 10)), none⟩,
    ⟨(some 12), .op (.load 6 true (.tmp 3)), some (11, false)⟩,
    ⟨(some 13), .call (.func i_impl_ValidChoices) [(.tmp 12)], some (11, false)⟩,
    ⟨(some 14), .op (.un .not (.tmp 13)), some (11, false)⟩,
    ⟨(some 15), .op (.pick (.tmp 11) (.const (Value.bool true)) (.tmp 14)), none⟩]) (.kill [8, 9, 10, 11, 12, 13, 14]))
  (.cond (.tmp 15) (.ghost (.kill [2, 3, 15]) (.seq (.post (.reg [⟨(some 16), .op (.build [Value.int .i64 0, Value.slice none 0 0, Value.slice none 0 0, Value.slice none 0 0, Value.slice none 0 0, Value.slice none 0 0] []), none⟩,
    ⟨none, .op (.store 6 (.tmp 4) (.tmp 16)), none⟩,
    ⟨(some 5), .op (.mv (.const (Value.int .i64 1))), none⟩]) (.kill [16]))
  .ret))
  (.ghost (.kill [15]) .skip)))
  (.seq (.post (.reg [⟨(some 17), .op (.faddr (.tmp 2) 0), none⟩,
    ⟨(some 18), .op (.load 1 false (.tmp 17)), none⟩,
    ⟨(some 19), .op (.faddr (.tmp 3) 0), none⟩,
    ⟨(some 20), .op (.load 1 false (.tmp 19)), none⟩,
    ⟨(some 21), .op (.bin .add (.tmp 18) (.tmp 20)), none⟩,
    ⟨(some 22), .op (.build [Value.int .i64 0, Value.slice none 0 0, Value.slice none 0 0, Value.slice none 0 0, Value.slice none 0 0, Value.slice none 0 0] [(0, 1, (.tmp 21))]), none⟩,
    ⟨(some 6), .op (.alloc (Value.agg #[Value.int .i64 0, Value.slice none 0 0, Value.slice none 0 0, Value.slice none 0 0, Value.slice none 0 0, Value.slice none 0 0])), none⟩,
    ⟨none, .op (.store 6 (.tmp 6) (.tmp 22)), none⟩]) (.kill [17, 18, 19, 20, 21, 22]))
  (.seq (.post (.reg [⟨(some 23), .op (.mkfn i_impl_EitherChoices_1 [(.tmp 6)]), none⟩,
    ⟨(some 7), .op (.mv (.tmp 23)), none⟩]) (.kill [23]))
  (.seq (.post (.reg [⟨(some 24), .op (.mv (.tmp 7)), none⟩,
    ⟨(some 25), .op (.load 6 true (.tmp 2)), none⟩,
    ⟨(some 26), .call (.tmp 24) [(.tmp 25), (.const (Value.int .i64 0)), (.const (Value.int .i64 0))], none⟩]) (.kill [24, 25, 26]))
  (.seq (.post (.draw [⟨0, ⟨(some 27), .op (.mv (.tmp 7)), none⟩, []⟩,
    ⟨1, ⟨(some 28), .op (.load 6 true (.tmp 3)), none⟩, []⟩,
    ⟨2, ⟨(some 29), .op (.faddr (.tmp 2) 2), none⟩, []⟩,
    ⟨3, ⟨(some 30), .op (.load 1 false (.tmp 29)), none⟩, []⟩,
    ⟨5, ⟨(some 32), .op (.faddr (.tmp 2) 0), none⟩, []⟩,
    ⟨6, ⟨(some 33), .op (.load 1 false (.tmp 32)), none⟩, []⟩,
    ⟨4, ⟨(some 31), .call (.func i_impl_size_bool) [(.tmp 30)], none⟩, [1, 6]⟩,
    ⟨7, ⟨(some 34), .call (.tmp 27) [(.tmp 28), (.tmp 31), (.tmp 33)], none⟩, []⟩]
    [0, 0, 0, 4, 12, 0, 32, 127]) (.kill [2, 3, 7, 27, 28, 29, 30, 31, 32, 33, 34]))
  (.seq (.post (.reg [⟨(some 35), .op (.load 6 true (.tmp 6)), none⟩,
    ⟨(some 36), .call (.func i_impl_choicesOrLimit) [(.tmp 35)], none⟩,
    ⟨(some 37), .op (.ext (.tmp 36) 0), none⟩,
    ⟨(some 38), .op (.ext (.tmp 36) 1), none⟩,
    ⟨none, .op (.store 6 (.tmp 4) (.tmp 37)), none⟩,
    ⟨(some 5), .op (.mv (.tmp 38)), none⟩]) (.kill [6, 35, 36, 37, 38]))
  .ret)))))))
theorem cf_impl_EitherChoices : chkFn Try.prog i_impl_EitherChoices ac_impl_EitherChoices [.cell 4 6 true, .tmp 5] 39 = true := by decide +kernel
def fa_impl_EitherChoices : FnA := ⟨ac_impl_EitherChoices, [.cell 4 6 true, .tmp 5], 39, false, false, [(.agg [.any, (.lst 1 .any), (.lst 1 .any), (.lst 1 (.lst 1 (.lst 2 .any))), (.lst 1 (.lst 1 (.lst 1 (.lst 1 .any)))), (.lst 1 (.lst 1 (.lst 1 .any)))]), (.agg [.any, (.lst 1 .any), (.lst 1 .any), (.lst 1 (.lst 1 (.lst 2 .any))), (.lst 1 (.lst 1 (.lst 1 (.lst 1 .any)))), (.lst 1 (.lst 1 (.lst 1 .any)))])], .any, none⟩

/-- The checked code of laws eqInt64S. -/
def lb_laws_eqInt64S_0 : AC := (.seq (.seq (.post (.reg [⟨(some 11), .op (.mv (.tmp 5)), none⟩,
    ⟨(some 12), .op (.mv (.tmp 0)), none⟩,
    ⟨(some 13), .op (.len false (.tmp 12)), none⟩,
    ⟨(some 14), .op (.bin .lss (.tmp 11) (.tmp 13)), none⟩]) (.kill [11, 12, 13]))
  (.cond (.tmp 14) (.ghost (.kill [14]) .skip)
  (.ghost (.kill [0, 1, 5, 14]) (.exit 0))))
  (.seq (.block 1 (.seq (.post (.draw [⟨0, ⟨(some 17), .op (.mv (.tmp 0)), none⟩, []⟩,
    ⟨1, ⟨(some 18), .op (.mv (.tmp 5)), none⟩, []⟩,
    ⟨2, ⟨(some 19), .op (.iaddrS (.tmp 17) (.tmp 18) 1), none⟩, []⟩,
    ⟨3, ⟨(some 20), .op (.load 1 false (.tmp 19)), none⟩, []⟩,
    ⟨4, ⟨(some 21), .op (.mv (.tmp 1)), none⟩, []⟩,
    ⟨5, ⟨(some 22), .op (.mv (.tmp 5)), none⟩, []⟩,
    ⟨6, ⟨(some 23), .op (.iaddrS (.tmp 21) (.tmp 22) 1), none⟩, []⟩,
    ⟨7, ⟨(some 24), .op (.load 1 false (.tmp 23)), none⟩, []⟩,
    ⟨8, ⟨(some 25), .op (.bin .neq (.tmp 20) (.tmp 24)), none⟩, []⟩]
    [0, 0, 3, 7, 0, 0, 48, 112, 255]) (.kill [17, 18, 19, 20, 21, 22, 23, 24]))
  (.cond (.tmp 25) (.ghost (.kill [0, 1, 5, 25]) (.seq (.reg [⟨(some 4), .op (.mv (.const (Value.bool false))), none⟩])
  .ret))
  (.ghost (.kill [25]) .skip))))
  (.post (.reg [⟨(some 15), .op (.mv (.tmp 5)), none⟩,
    ⟨(some 16), .op (.bin .add (.tmp 15) (.const (Value.int .i64 1))), none⟩,
    ⟨(some 5), .op (.mv (.tmp 16)), none⟩]) (.kill [15, 16]))))
def lo_laws_eqInt64S_0 : AC := (.loop lb_laws_eqInt64S_0)
def ac_laws_eqInt64S : AC := (.seq (.post (.reg [⟨(some 4), .op (.mv (.const (Value.bool false))), none⟩]) (.kill [4]))
  (.seq (.seq (.post (.reg [⟨(some 6), .op (.mv (.tmp 0)), none⟩,
    ⟨(some 7), .op (.len false (.tmp 6)), none⟩,
    ⟨(some 8), .op (.mv (.tmp 1)), none⟩,
    ⟨(some 9), .op (.len false (.tmp 8)), none⟩,
    ⟨(some 10), .op (.bin .neq (.tmp 7) (.tmp 9)), none⟩]) (.kill [6, 7, 8, 9]))
  (.cond (.tmp 10) (.ghost (.kill [0, 1, 10]) (.seq (.reg [⟨(some 4), .op (.mv (.const (Value.bool false))), none⟩])
  .ret))
  (.ghost (.kill [10]) .skip)))
  (.seq (.seq (.reg [⟨(some 5), .op (.mv (.const (Value.int .i64 0))), none⟩])
  (.block 0 lo_laws_eqInt64S_0))
  (.ghost (.kill [0, 1, 5]) (.seq (.reg [⟨(some 4), .op (.mv (.const (Value.bool true))), none⟩])
  .ret)))))
theorem cf_laws_eqInt64S : chkFn Try.prog i_laws_eqInt64S ac_laws_eqInt64S [.tmp 4] 26 = true := by decide +kernel
def fa_laws_eqInt64S : FnA := ⟨ac_laws_eqInt64S, [.tmp 4], 26, false, true, [(.lst 1 .any), (.lst 1 .any)], .any, none⟩

/-- The checked code of laws eqBoolS. -/
def lb_laws_eqBoolS_0 : AC := (.seq (.seq (.post (.reg [⟨(some 11), .op (.mv (.tmp 5)), none⟩,
    ⟨(some 12), .op (.mv (.tmp 0)), none⟩,
    ⟨(some 13), .op (.len false (.tmp 12)), none⟩,
    ⟨(some 14), .op (.bin .lss (.tmp 11) (.tmp 13)), none⟩]) (.kill [11, 12, 13]))
  (.cond (.tmp 14) (.ghost (.kill [14]) .skip)
  (.ghost (.kill [0, 1, 5, 14]) (.exit 0))))
  (.seq (.block 1 (.seq (.post (.draw [⟨0, ⟨(some 17), .op (.mv (.tmp 0)), none⟩, []⟩,
    ⟨1, ⟨(some 18), .op (.mv (.tmp 5)), none⟩, []⟩,
    ⟨2, ⟨(some 19), .op (.iaddrS (.tmp 17) (.tmp 18) 1), none⟩, []⟩,
    ⟨3, ⟨(some 20), .op (.load 1 false (.tmp 19)), none⟩, []⟩,
    ⟨4, ⟨(some 21), .op (.mv (.tmp 1)), none⟩, []⟩,
    ⟨5, ⟨(some 22), .op (.mv (.tmp 5)), none⟩, []⟩,
    ⟨6, ⟨(some 23), .op (.iaddrS (.tmp 21) (.tmp 22) 1), none⟩, []⟩,
    ⟨7, ⟨(some 24), .op (.load 1 false (.tmp 23)), none⟩, []⟩,
    ⟨8, ⟨(some 25), .op (.eqb true (.tmp 20) (.tmp 24)), none⟩, []⟩]
    [0, 0, 3, 7, 0, 0, 48, 112, 255]) (.kill [17, 18, 19, 20, 21, 22, 23, 24]))
  (.cond (.tmp 25) (.ghost (.kill [0, 1, 5, 25]) (.seq (.reg [⟨(some 4), .op (.mv (.const (Value.bool false))), none⟩])
  .ret))
  (.ghost (.kill [25]) .skip))))
  (.post (.reg [⟨(some 15), .op (.mv (.tmp 5)), none⟩,
    ⟨(some 16), .op (.bin .add (.tmp 15) (.const (Value.int .i64 1))), none⟩,
    ⟨(some 5), .op (.mv (.tmp 16)), none⟩]) (.kill [15, 16]))))
def lo_laws_eqBoolS_0 : AC := (.loop lb_laws_eqBoolS_0)
def ac_laws_eqBoolS : AC := (.seq (.post (.reg [⟨(some 4), .op (.mv (.const (Value.bool false))), none⟩]) (.kill [4]))
  (.seq (.seq (.post (.reg [⟨(some 6), .op (.mv (.tmp 0)), none⟩,
    ⟨(some 7), .op (.len false (.tmp 6)), none⟩,
    ⟨(some 8), .op (.mv (.tmp 1)), none⟩,
    ⟨(some 9), .op (.len false (.tmp 8)), none⟩,
    ⟨(some 10), .op (.bin .neq (.tmp 7) (.tmp 9)), none⟩]) (.kill [6, 7, 8, 9]))
  (.cond (.tmp 10) (.ghost (.kill [0, 1, 10]) (.seq (.reg [⟨(some 4), .op (.mv (.const (Value.bool false))), none⟩])
  .ret))
  (.ghost (.kill [10]) .skip)))
  (.seq (.seq (.reg [⟨(some 5), .op (.mv (.const (Value.int .i64 0))), none⟩])
  (.block 0 lo_laws_eqBoolS_0))
  (.ghost (.kill [0, 1, 5]) (.seq (.reg [⟨(some 4), .op (.mv (.const (Value.bool true))), none⟩])
  .ret)))))
theorem cf_laws_eqBoolS : chkFn Try.prog i_laws_eqBoolS ac_laws_eqBoolS [.tmp 4] 26 = true := by decide +kernel
def fa_laws_eqBoolS : FnA := ⟨ac_laws_eqBoolS, [.tmp 4], 26, false, true, [], .any, none⟩

/-- The checked code of laws eqPush. -/
def ac_laws_eqPush : AC := (.seq (.post (.reg [⟨(some 2), .op (.box true (.tmp 0)), none⟩,
    ⟨(some 3), .op (.box true (.tmp 1)), none⟩,
    ⟨(some 4), .op (.mv (.const (Value.bool false))), none⟩]) (.kill [0, 1, 4]))
  (.seq (.seq (.post (.reg [⟨(some 5), .op (.faddr (.tmp 2) 0), none⟩,
    ⟨(some 6), .op (.load 1 false (.tmp 5)), none⟩,
    ⟨(some 7), .op (.faddr (.tmp 3) 0), none⟩,
    ⟨(some 8), .op (.load 1 false (.tmp 7)), none⟩,
    ⟨(some 9), .op (.bin .neq (.tmp 6) (.tmp 8)), none⟩]) (.kill [5, 6, 7, 8]))
  (.cond (.tmp 9) (.ghost (.kill [2, 3, 9]) (.seq (.reg [⟨(some 4), .op (.mv (.const (Value.bool false))), none⟩])
  .ret))
  (.ghost (.kill [9]) .skip)))
  (.seq (.seq (.post (.reg [⟨(some 10), .op (.faddr (.tmp 2) 1), none⟩,
    ⟨(some 11), .op (.load 1 false (.tmp 10)), none⟩,
    ⟨(some 12), .op (.faddr (.tmp 3) 1), none⟩,
    ⟨(some 13), .op (.load 1 false (.tmp 12)), none⟩,
    ⟨(some 14), .op (.bin .neq (.tmp 11) (.tmp 13)), none⟩]) (.kill [2, 3, 10, 11, 12, 13]))
  (.cond (.tmp 14) (.ghost (.kill [14]) (.seq (.reg [⟨(some 4), .op (.mv (.const (Value.bool false))), none⟩])
  .ret))
  (.ghost (.kill [14]) .skip)))
  (.seq (.reg [⟨(some 4), .op (.mv (.const (Value.bool true))), none⟩])
  .ret))))
theorem cf_laws_eqPush : chkFn Try.prog i_laws_eqPush ac_laws_eqPush [.tmp 4] 15 = true := by decide +kernel
def fa_laws_eqPush : FnA := ⟨ac_laws_eqPush, [.tmp 4], 15, false, true, [], .any, none⟩

/-- The checked code of laws eqPushS. -/
def lb_laws_eqPushS_0 : AC := (.seq (.seq (.post (.reg [⟨(some 11), .op (.mv (.tmp 5)), none⟩,
    ⟨(some 12), .op (.mv (.tmp 0)), none⟩,
    ⟨(some 13), .op (.len false (.tmp 12)), none⟩,
    ⟨(some 14), .op (.bin .lss (.tmp 11) (.tmp 13)), none⟩]) (.kill [11, 12, 13]))
  (.cond (.tmp 14) (.ghost (.kill [14]) .skip)
  (.ghost (.kill [0, 1, 5, 14]) (.exit 0))))
  (.seq (.block 1 (.seq (.post (.draw [⟨0, ⟨(some 17), .op (.mv (.tmp 0)), none⟩, []⟩,
    ⟨1, ⟨(some 18), .op (.mv (.tmp 5)), none⟩, []⟩,
    ⟨2, ⟨(some 19), .op (.iaddrS (.tmp 17) (.tmp 18) 2), none⟩, []⟩,
    ⟨3, ⟨(some 20), .op (.load 2 true (.tmp 19)), none⟩, []⟩,
    ⟨4, ⟨(some 21), .op (.mv (.tmp 1)), none⟩, []⟩,
    ⟨5, ⟨(some 22), .op (.mv (.tmp 5)), none⟩, []⟩,
    ⟨6, ⟨(some 23), .op (.iaddrS (.tmp 21) (.tmp 22) 2), none⟩, []⟩,
    ⟨7, ⟨(some 24), .op (.load 2 true (.tmp 23)), none⟩, []⟩,
    ⟨8, ⟨(some 25), .call (.func i_laws_eqPush) [(.tmp 20), (.tmp 24)], none⟩, []⟩,
    ⟨9, ⟨(some 26), .op (.un .not (.tmp 25)), none⟩, []⟩]
    [0, 0, 3, 7, 0, 0, 48, 112, 255, 511]) (.kill [17, 18, 19, 20, 21, 22, 23, 24, 25]))
  (.cond (.tmp 26) (.ghost (.kill [0, 1, 5, 26]) (.seq (.reg [⟨(some 4), .op (.mv (.const (Value.bool false))), none⟩])
  .ret))
  (.ghost (.kill [26]) .skip))))
  (.post (.reg [⟨(some 15), .op (.mv (.tmp 5)), none⟩,
    ⟨(some 16), .op (.bin .add (.tmp 15) (.const (Value.int .i64 1))), none⟩,
    ⟨(some 5), .op (.mv (.tmp 16)), none⟩]) (.kill [15, 16]))))
def lo_laws_eqPushS_0 : AC := (.loop lb_laws_eqPushS_0)
def ac_laws_eqPushS : AC := (.seq (.post (.reg [⟨(some 4), .op (.mv (.const (Value.bool false))), none⟩]) (.kill [4]))
  (.seq (.seq (.post (.reg [⟨(some 6), .op (.mv (.tmp 0)), none⟩,
    ⟨(some 7), .op (.len false (.tmp 6)), none⟩,
    ⟨(some 8), .op (.mv (.tmp 1)), none⟩,
    ⟨(some 9), .op (.len false (.tmp 8)), none⟩,
    ⟨(some 10), .op (.bin .neq (.tmp 7) (.tmp 9)), none⟩]) (.kill [6, 7, 8, 9]))
  (.cond (.tmp 10) (.ghost (.kill [0, 1, 10]) (.seq (.reg [⟨(some 4), .op (.mv (.const (Value.bool false))), none⟩])
  .ret))
  (.ghost (.kill [10]) .skip)))
  (.seq (.seq (.reg [⟨(some 5), .op (.mv (.const (Value.int .i64 0))), none⟩])
  (.block 0 lo_laws_eqPushS_0))
  (.ghost (.kill [0, 1, 5]) (.seq (.reg [⟨(some 4), .op (.mv (.const (Value.bool true))), none⟩])
  .ret)))))
theorem cf_laws_eqPushS : chkFn Try.prog i_laws_eqPushS ac_laws_eqPushS [.tmp 4] 27 = true := by decide +kernel
def fa_laws_eqPushS : FnA := ⟨ac_laws_eqPushS, [.tmp 4], 27, false, true, [], .any, none⟩

/-- The checked code of laws eqPushSS. -/
def lb_laws_eqPushSS_0 : AC := (.seq (.seq (.post (.reg [⟨(some 11), .op (.mv (.tmp 5)), none⟩,
    ⟨(some 12), .op (.mv (.tmp 0)), none⟩,
    ⟨(some 13), .op (.len false (.tmp 12)), none⟩,
    ⟨(some 14), .op (.bin .lss (.tmp 11) (.tmp 13)), none⟩]) (.kill [11, 12, 13]))
  (.cond (.tmp 14) (.ghost (.kill [14]) .skip)
  (.ghost (.kill [0, 1, 5, 14]) (.exit 0))))
  (.seq (.block 1 (.seq (.post (.draw [⟨0, ⟨(some 17), .op (.mv (.tmp 0)), none⟩, []⟩,
    ⟨1, ⟨(some 18), .op (.mv (.tmp 5)), none⟩, []⟩,
    ⟨2, ⟨(some 19), .op (.iaddrS (.tmp 17) (.tmp 18) 1), none⟩, []⟩,
    ⟨3, ⟨(some 20), .op (.load 1 false (.tmp 19)), none⟩, []⟩,
    ⟨4, ⟨(some 21), .op (.mv (.tmp 1)), none⟩, []⟩,
    ⟨5, ⟨(some 22), .op (.mv (.tmp 5)), none⟩, []⟩,
    ⟨6, ⟨(some 23), .op (.iaddrS (.tmp 21) (.tmp 22) 1), none⟩, []⟩,
    ⟨7, ⟨(some 24), .op (.load 1 false (.tmp 23)), none⟩, []⟩,
    ⟨8, ⟨(some 25), .call (.func i_laws_eqPushS) [(.tmp 20), (.tmp 24)], none⟩, []⟩,
    ⟨9, ⟨(some 26), .op (.un .not (.tmp 25)), none⟩, []⟩]
    [0, 0, 3, 7, 0, 0, 48, 112, 255, 511]) (.kill [17, 18, 19, 20, 21, 22, 23, 24, 25]))
  (.cond (.tmp 26) (.ghost (.kill [0, 1, 5, 26]) (.seq (.reg [⟨(some 4), .op (.mv (.const (Value.bool false))), none⟩])
  .ret))
  (.ghost (.kill [26]) .skip))))
  (.post (.reg [⟨(some 15), .op (.mv (.tmp 5)), none⟩,
    ⟨(some 16), .op (.bin .add (.tmp 15) (.const (Value.int .i64 1))), none⟩,
    ⟨(some 5), .op (.mv (.tmp 16)), none⟩]) (.kill [15, 16]))))
def lo_laws_eqPushSS_0 : AC := (.loop lb_laws_eqPushSS_0)
def ac_laws_eqPushSS : AC := (.seq (.post (.reg [⟨(some 4), .op (.mv (.const (Value.bool false))), none⟩]) (.kill [4]))
  (.seq (.seq (.post (.reg [⟨(some 6), .op (.mv (.tmp 0)), none⟩,
    ⟨(some 7), .op (.len false (.tmp 6)), none⟩,
    ⟨(some 8), .op (.mv (.tmp 1)), none⟩,
    ⟨(some 9), .op (.len false (.tmp 8)), none⟩,
    ⟨(some 10), .op (.bin .neq (.tmp 7) (.tmp 9)), none⟩]) (.kill [6, 7, 8, 9]))
  (.cond (.tmp 10) (.ghost (.kill [0, 1, 10]) (.seq (.reg [⟨(some 4), .op (.mv (.const (Value.bool false))), none⟩])
  .ret))
  (.ghost (.kill [10]) .skip)))
  (.seq (.seq (.reg [⟨(some 5), .op (.mv (.const (Value.int .i64 0))), none⟩])
  (.block 0 lo_laws_eqPushSS_0))
  (.ghost (.kill [0, 1, 5]) (.seq (.reg [⟨(some 4), .op (.mv (.const (Value.bool true))), none⟩])
  .ret)))))
theorem cf_laws_eqPushSS : chkFn Try.prog i_laws_eqPushSS ac_laws_eqPushSS [.tmp 4] 27 = true := by decide +kernel
def fa_laws_eqPushSS : FnA := ⟨ac_laws_eqPushSS, [.tmp 4], 27, false, true, [], .any, none⟩

/-- The checked code of laws eqPushSSS. -/
def lb_laws_eqPushSSS_0 : AC := (.seq (.seq (.post (.reg [⟨(some 11), .op (.mv (.tmp 5)), none⟩,
    ⟨(some 12), .op (.mv (.tmp 0)), none⟩,
    ⟨(some 13), .op (.len false (.tmp 12)), none⟩,
    ⟨(some 14), .op (.bin .lss (.tmp 11) (.tmp 13)), none⟩]) (.kill [11, 12, 13]))
  (.cond (.tmp 14) (.ghost (.kill [14]) .skip)
  (.ghost (.kill [0, 1, 5, 14]) (.exit 0))))
  (.seq (.block 1 (.seq (.post (.draw [⟨0, ⟨(some 17), .op (.mv (.tmp 0)), none⟩, []⟩,
    ⟨1, ⟨(some 18), .op (.mv (.tmp 5)), none⟩, []⟩,
    ⟨2, ⟨(some 19), .op (.iaddrS (.tmp 17) (.tmp 18) 1), none⟩, []⟩,
    ⟨3, ⟨(some 20), .op (.load 1 false (.tmp 19)), none⟩, []⟩,
    ⟨4, ⟨(some 21), .op (.mv (.tmp 1)), none⟩, []⟩,
    ⟨5, ⟨(some 22), .op (.mv (.tmp 5)), none⟩, []⟩,
    ⟨6, ⟨(some 23), .op (.iaddrS (.tmp 21) (.tmp 22) 1), none⟩, []⟩,
    ⟨7, ⟨(some 24), .op (.load 1 false (.tmp 23)), none⟩, []⟩,
    ⟨8, ⟨(some 25), .call (.func i_laws_eqPushSS) [(.tmp 20), (.tmp 24)], none⟩, []⟩,
    ⟨9, ⟨(some 26), .op (.un .not (.tmp 25)), none⟩, []⟩]
    [0, 0, 3, 7, 0, 0, 48, 112, 255, 511]) (.kill [17, 18, 19, 20, 21, 22, 23, 24, 25]))
  (.cond (.tmp 26) (.ghost (.kill [0, 1, 5, 26]) (.seq (.reg [⟨(some 4), .op (.mv (.const (Value.bool false))), none⟩])
  .ret))
  (.ghost (.kill [26]) .skip))))
  (.post (.reg [⟨(some 15), .op (.mv (.tmp 5)), none⟩,
    ⟨(some 16), .op (.bin .add (.tmp 15) (.const (Value.int .i64 1))), none⟩,
    ⟨(some 5), .op (.mv (.tmp 16)), none⟩]) (.kill [15, 16]))))
def lo_laws_eqPushSSS_0 : AC := (.loop lb_laws_eqPushSSS_0)
def ac_laws_eqPushSSS : AC := (.seq (.post (.reg [⟨(some 4), .op (.mv (.const (Value.bool false))), none⟩]) (.kill [4]))
  (.seq (.seq (.post (.reg [⟨(some 6), .op (.mv (.tmp 0)), none⟩,
    ⟨(some 7), .op (.len false (.tmp 6)), none⟩,
    ⟨(some 8), .op (.mv (.tmp 1)), none⟩,
    ⟨(some 9), .op (.len false (.tmp 8)), none⟩,
    ⟨(some 10), .op (.bin .neq (.tmp 7) (.tmp 9)), none⟩]) (.kill [6, 7, 8, 9]))
  (.cond (.tmp 10) (.ghost (.kill [0, 1, 10]) (.seq (.reg [⟨(some 4), .op (.mv (.const (Value.bool false))), none⟩])
  .ret))
  (.ghost (.kill [10]) .skip)))
  (.seq (.seq (.reg [⟨(some 5), .op (.mv (.const (Value.int .i64 0))), none⟩])
  (.block 0 lo_laws_eqPushSSS_0))
  (.ghost (.kill [0, 1, 5]) (.seq (.reg [⟨(some 4), .op (.mv (.const (Value.bool true))), none⟩])
  .ret)))))
theorem cf_laws_eqPushSSS : chkFn Try.prog i_laws_eqPushSSS ac_laws_eqPushSSS [.tmp 4] 27 = true := by decide +kernel
def fa_laws_eqPushSSS : FnA := ⟨ac_laws_eqPushSSS, [.tmp 4], 27, false, true, [], .any, none⟩

/-- The checked code of laws eqInt64SS. -/
def lb_laws_eqInt64SS_0 : AC := (.seq (.seq (.post (.reg [⟨(some 11), .op (.mv (.tmp 5)), none⟩,
    ⟨(some 12), .op (.mv (.tmp 0)), none⟩,
    ⟨(some 13), .op (.len false (.tmp 12)), none⟩,
    ⟨(some 14), .op (.bin .lss (.tmp 11) (.tmp 13)), none⟩]) (.kill [11, 12, 13]))
  (.cond (.tmp 14) (.ghost (.kill [14]) .skip)
  (.ghost (.kill [0, 1, 5, 14]) (.exit 0))))
  (.seq (.block 1 (.seq (.post (.draw [⟨0, ⟨(some 17), .op (.mv (.tmp 0)), none⟩, []⟩,
    ⟨1, ⟨(some 18), .op (.mv (.tmp 5)), none⟩, []⟩,
    ⟨2, ⟨(some 19), .op (.iaddrS (.tmp 17) (.tmp 18) 1), none⟩, []⟩,
    ⟨3, ⟨(some 20), .op (.load 1 false (.tmp 19)), none⟩, []⟩,
    ⟨4, ⟨(some 21), .op (.mv (.tmp 1)), none⟩, []⟩,
    ⟨5, ⟨(some 22), .op (.mv (.tmp 5)), none⟩, []⟩,
    ⟨6, ⟨(some 23), .op (.iaddrS (.tmp 21) (.tmp 22) 1), none⟩, []⟩,
    ⟨7, ⟨(some 24), .op (.load 1 false (.tmp 23)), none⟩, []⟩,
    ⟨8, ⟨(some 25), .call (.func i_laws_eqInt64S) [(.tmp 20), (.tmp 24)], none⟩, []⟩,
    ⟨9, ⟨(some 26), .op (.un .not (.tmp 25)), none⟩, []⟩]
    [0, 0, 3, 7, 0, 0, 48, 112, 255, 511]) (.kill [17, 18, 19, 20, 21, 22, 23, 24, 25]))
  (.cond (.tmp 26) (.ghost (.kill [0, 1, 5, 26]) (.seq (.reg [⟨(some 4), .op (.mv (.const (Value.bool false))), none⟩])
  .ret))
  (.ghost (.kill [26]) .skip))))
  (.post (.reg [⟨(some 15), .op (.mv (.tmp 5)), none⟩,
    ⟨(some 16), .op (.bin .add (.tmp 15) (.const (Value.int .i64 1))), none⟩,
    ⟨(some 5), .op (.mv (.tmp 16)), none⟩]) (.kill [15, 16]))))
def lo_laws_eqInt64SS_0 : AC := (.loop lb_laws_eqInt64SS_0)
def ac_laws_eqInt64SS : AC := (.seq (.post (.reg [⟨(some 4), .op (.mv (.const (Value.bool false))), none⟩]) (.kill [4]))
  (.seq (.seq (.post (.reg [⟨(some 6), .op (.mv (.tmp 0)), none⟩,
    ⟨(some 7), .op (.len false (.tmp 6)), none⟩,
    ⟨(some 8), .op (.mv (.tmp 1)), none⟩,
    ⟨(some 9), .op (.len false (.tmp 8)), none⟩,
    ⟨(some 10), .op (.bin .neq (.tmp 7) (.tmp 9)), none⟩]) (.kill [6, 7, 8, 9]))
  (.cond (.tmp 10) (.ghost (.kill [0, 1, 10]) (.seq (.reg [⟨(some 4), .op (.mv (.const (Value.bool false))), none⟩])
  .ret))
  (.ghost (.kill [10]) .skip)))
  (.seq (.seq (.reg [⟨(some 5), .op (.mv (.const (Value.int .i64 0))), none⟩])
  (.block 0 lo_laws_eqInt64SS_0))
  (.ghost (.kill [0, 1, 5]) (.seq (.reg [⟨(some 4), .op (.mv (.const (Value.bool true))), none⟩])
  .ret)))))
theorem cf_laws_eqInt64SS : chkFn Try.prog i_laws_eqInt64SS ac_laws_eqInt64SS [.tmp 4] 27 = true := by decide +kernel
def fa_laws_eqInt64SS : FnA := ⟨ac_laws_eqInt64SS, [.tmp 4], 27, false, true, [(.lst 1 (.lst 1 .any)), (.lst 1 (.lst 1 .any))], .any, none⟩

/-- The checked code of laws eqInt64SSS. -/
def lb_laws_eqInt64SSS_0 : AC := (.seq (.seq (.post (.reg [⟨(some 11), .op (.mv (.tmp 5)), none⟩,
    ⟨(some 12), .op (.mv (.tmp 0)), none⟩,
    ⟨(some 13), .op (.len false (.tmp 12)), none⟩,
    ⟨(some 14), .op (.bin .lss (.tmp 11) (.tmp 13)), none⟩]) (.kill [11, 12, 13]))
  (.cond (.tmp 14) (.ghost (.kill [14]) .skip)
  (.ghost (.kill [0, 1, 5, 14]) (.exit 0))))
  (.seq (.block 1 (.seq (.post (.draw [⟨0, ⟨(some 17), .op (.mv (.tmp 0)), none⟩, []⟩,
    ⟨1, ⟨(some 18), .op (.mv (.tmp 5)), none⟩, []⟩,
    ⟨2, ⟨(some 19), .op (.iaddrS (.tmp 17) (.tmp 18) 1), none⟩, []⟩,
    ⟨3, ⟨(some 20), .op (.load 1 false (.tmp 19)), none⟩, []⟩,
    ⟨4, ⟨(some 21), .op (.mv (.tmp 1)), none⟩, []⟩,
    ⟨5, ⟨(some 22), .op (.mv (.tmp 5)), none⟩, []⟩,
    ⟨6, ⟨(some 23), .op (.iaddrS (.tmp 21) (.tmp 22) 1), none⟩, []⟩,
    ⟨7, ⟨(some 24), .op (.load 1 false (.tmp 23)), none⟩, []⟩,
    ⟨8, ⟨(some 25), .call (.func i_laws_eqInt64SS) [(.tmp 20), (.tmp 24)], none⟩, []⟩,
    ⟨9, ⟨(some 26), .op (.un .not (.tmp 25)), none⟩, []⟩]
    [0, 0, 3, 7, 0, 0, 48, 112, 255, 511]) (.kill [17, 18, 19, 20, 21, 22, 23, 24, 25]))
  (.cond (.tmp 26) (.ghost (.kill [0, 1, 5, 26]) (.seq (.reg [⟨(some 4), .op (.mv (.const (Value.bool false))), none⟩])
  .ret))
  (.ghost (.kill [26]) .skip))))
  (.post (.reg [⟨(some 15), .op (.mv (.tmp 5)), none⟩,
    ⟨(some 16), .op (.bin .add (.tmp 15) (.const (Value.int .i64 1))), none⟩,
    ⟨(some 5), .op (.mv (.tmp 16)), none⟩]) (.kill [15, 16]))))
def lo_laws_eqInt64SSS_0 : AC := (.loop lb_laws_eqInt64SSS_0)
def ac_laws_eqInt64SSS : AC := (.seq (.post (.reg [⟨(some 4), .op (.mv (.const (Value.bool false))), none⟩]) (.kill [4]))
  (.seq (.seq (.post (.reg [⟨(some 6), .op (.mv (.tmp 0)), none⟩,
    ⟨(some 7), .op (.len false (.tmp 6)), none⟩,
    ⟨(some 8), .op (.mv (.tmp 1)), none⟩,
    ⟨(some 9), .op (.len false (.tmp 8)), none⟩,
    ⟨(some 10), .op (.bin .neq (.tmp 7) (.tmp 9)), none⟩]) (.kill [6, 7, 8, 9]))
  (.cond (.tmp 10) (.ghost (.kill [0, 1, 10]) (.seq (.reg [⟨(some 4), .op (.mv (.const (Value.bool false))), none⟩])
  .ret))
  (.ghost (.kill [10]) .skip)))
  (.seq (.seq (.reg [⟨(some 5), .op (.mv (.const (Value.int .i64 0))), none⟩])
  (.block 0 lo_laws_eqInt64SSS_0))
  (.ghost (.kill [0, 1, 5]) (.seq (.reg [⟨(some 4), .op (.mv (.const (Value.bool true))), none⟩])
  .ret)))))
theorem cf_laws_eqInt64SSS : chkFn Try.prog i_laws_eqInt64SSS ac_laws_eqInt64SSS [.tmp 4] 27 = true := by decide +kernel
def fa_laws_eqInt64SSS : FnA := ⟨ac_laws_eqInt64SSS, [.tmp 4], 27, false, true, [], .any, none⟩

/-- The checked code of laws eqInt64SSSS. -/
def lb_laws_eqInt64SSSS_0 : AC := (.seq (.seq (.post (.reg [⟨(some 11), .op (.mv (.tmp 5)), none⟩,
    ⟨(some 12), .op (.mv (.tmp 0)), none⟩,
    ⟨(some 13), .op (.len false (.tmp 12)), none⟩,
    ⟨(some 14), .op (.bin .lss (.tmp 11) (.tmp 13)), none⟩]) (.kill [11, 12, 13]))
  (.cond (.tmp 14) (.ghost (.kill [14]) .skip)
  (.ghost (.kill [0, 1, 5, 14]) (.exit 0))))
  (.seq (.block 1 (.seq (.post (.draw [⟨0, ⟨(some 17), .op (.mv (.tmp 0)), none⟩, []⟩,
    ⟨1, ⟨(some 18), .op (.mv (.tmp 5)), none⟩, []⟩,
    ⟨2, ⟨(some 19), .op (.iaddrS (.tmp 17) (.tmp 18) 1), none⟩, []⟩,
    ⟨3, ⟨(some 20), .op (.load 1 false (.tmp 19)), none⟩, []⟩,
    ⟨4, ⟨(some 21), .op (.mv (.tmp 1)), none⟩, []⟩,
    ⟨5, ⟨(some 22), .op (.mv (.tmp 5)), none⟩, []⟩,
    ⟨6, ⟨(some 23), .op (.iaddrS (.tmp 21) (.tmp 22) 1), none⟩, []⟩,
    ⟨7, ⟨(some 24), .op (.load 1 false (.tmp 23)), none⟩, []⟩,
    ⟨8, ⟨(some 25), .call (.func i_laws_eqInt64SSS) [(.tmp 20), (.tmp 24)], none⟩, []⟩,
    ⟨9, ⟨(some 26), .op (.un .not (.tmp 25)), none⟩, []⟩]
    [0, 0, 3, 7, 0, 0, 48, 112, 255, 511]) (.kill [17, 18, 19, 20, 21, 22, 23, 24, 25]))
  (.cond (.tmp 26) (.ghost (.kill [0, 1, 5, 26]) (.seq (.reg [⟨(some 4), .op (.mv (.const (Value.bool false))), none⟩])
  .ret))
  (.ghost (.kill [26]) .skip))))
  (.post (.reg [⟨(some 15), .op (.mv (.tmp 5)), none⟩,
    ⟨(some 16), .op (.bin .add (.tmp 15) (.const (Value.int .i64 1))), none⟩,
    ⟨(some 5), .op (.mv (.tmp 16)), none⟩]) (.kill [15, 16]))))
def lo_laws_eqInt64SSSS_0 : AC := (.loop lb_laws_eqInt64SSSS_0)
def ac_laws_eqInt64SSSS : AC := (.seq (.post (.reg [⟨(some 4), .op (.mv (.const (Value.bool false))), none⟩]) (.kill [4]))
  (.seq (.seq (.post (.reg [⟨(some 6), .op (.mv (.tmp 0)), none⟩,
    ⟨(some 7), .op (.len false (.tmp 6)), none⟩,
    ⟨(some 8), .op (.mv (.tmp 1)), none⟩,
    ⟨(some 9), .op (.len false (.tmp 8)), none⟩,
    ⟨(some 10), .op (.bin .neq (.tmp 7) (.tmp 9)), none⟩]) (.kill [6, 7, 8, 9]))
  (.cond (.tmp 10) (.ghost (.kill [0, 1, 10]) (.seq (.reg [⟨(some 4), .op (.mv (.const (Value.bool false))), none⟩])
  .ret))
  (.ghost (.kill [10]) .skip)))
  (.seq (.seq (.reg [⟨(some 5), .op (.mv (.const (Value.int .i64 0))), none⟩])
  (.block 0 lo_laws_eqInt64SSSS_0))
  (.ghost (.kill [0, 1, 5]) (.seq (.reg [⟨(some 4), .op (.mv (.const (Value.bool true))), none⟩])
  .ret)))))
theorem cf_laws_eqInt64SSSS : chkFn Try.prog i_laws_eqInt64SSSS ac_laws_eqInt64SSSS [.tmp 4] 27 = true := by decide +kernel
def fa_laws_eqInt64SSSS : FnA := ⟨ac_laws_eqInt64SSSS, [.tmp 4], 27, false, true, [], .any, none⟩

/-- The checked code of laws eqChoices. -/
def ac_laws_eqChoices : AC := (.seq (.post (.reg [⟨(some 2), .op (.box true (.tmp 0)), none⟩,
    ⟨(some 3), .op (.box true (.tmp 1)), none⟩,
    ⟨(some 4), .op (.mv (.const (Value.bool false))), none⟩]) (.kill [0, 1, 4]))
  (.seq (.seq (.post (.reg [⟨(some 5), .op (.faddr (.tmp 2) 0), none⟩,
    ⟨(some 6), .op (.load 1 false (.tmp 5)), none⟩,
    ⟨(some 7), .op (.faddr (.tmp 3) 0), none⟩,
    ⟨(some 8), .op (.load 1 false (.tmp 7)), none⟩,
    ⟨(some 9), .op (.bin .neq (.tmp 6) (.tmp 8)), none⟩]) (.kill [5, 6, 7, 8]))
  (.cond (.tmp 9) (.ghost (.kill [2, 3, 9]) (.seq (.reg [⟨(some 4), .op (.mv (.const (Value.bool false))), none⟩])
  .ret))
  (.ghost (.kill [9]) .skip)))
  (.seq (.seq (.post (.reg [⟨(some 10), .op (.faddr (.tmp 2) 1), none⟩,
    ⟨(some 11), .op (.load 1 false (.tmp 10)), none⟩,
    ⟨(some 12), .op (.faddr (.tmp 3) 1), none⟩,
    ⟨(some 13), .op (.load 1 false (.tmp 12)), none⟩,
    ⟨(some 14), .call (.func i_laws_eqInt64S) [(.tmp 11), (.tmp 13)], none⟩,
    ⟨(some 15), .op (.un .not (.tmp 14)), none⟩]) (.kill [10, 11, 12, 13, 14]))
  (.cond (.tmp 15) (.ghost (.kill [2, 3, 15]) (.seq (.reg [⟨(some 4), .op (.mv (.const (Value.bool false))), none⟩])
  .ret))
  (.ghost (.kill [15]) .skip)))
  (.seq (.seq (.post (.reg [⟨(some 16), .op (.faddr (.tmp 2) 2), none⟩,
    ⟨(some 17), .op (.load 1 false (.tmp 16)), none⟩,
    ⟨(some 18), .op (.faddr (.tmp 3) 2), none⟩,
    ⟨(some 19), .op (.load 1 false (.tmp 18)), none⟩,
    ⟨(some 20), .call (.func i_laws_eqBoolS) [(.tmp 17), (.tmp 19)], none⟩,
    ⟨(some 21), .op (.un .not (.tmp 20)), none⟩]) (.kill [16, 17, 18, 19, 20]))
  (.cond (.tmp 21) (.ghost (.kill [2, 3, 21]) (.seq (.reg [⟨(some 4), .op (.mv (.const (Value.bool false))), none⟩])
  .ret))
  (.ghost (.kill [21]) .skip)))
  (.seq (.seq (.post (.reg [⟨(some 22), .op (.faddr (.tmp 2) 3), none⟩,
    ⟨(some 23), .op (.load 1 false (.tmp 22)), none⟩,
    ⟨(some 24), .op (.faddr (.tmp 3) 3), none⟩,
    ⟨(some 25), .op (.load 1 false (.tmp 24)), none⟩,
    ⟨(some 26), .call (.func i_laws_eqPushSSS) [(.tmp 23), (.tmp 25)], none⟩,
    ⟨(some 27), .op (.un .not (.tmp 26)), none⟩]) (.kill [22, 23, 24, 25, 26]))
  (.cond (.tmp 27) (.ghost (.kill [2, 3, 27]) (.seq (.reg [⟨(some 4), .op (.mv (.const (Value.bool false))), none⟩])
  .ret))
  (.ghost (.kill [27]) .skip)))
  (.seq (.seq (.post (.reg [⟨(some 28), .op (.faddr (.tmp 2) 4), none⟩,
    ⟨(some 29), .op (.load 1 false (.tmp 28)), none⟩,
    ⟨(some 30), .op (.faddr (.tmp 3) 4), none⟩,
    ⟨(some 31), .op (.load 1 false (.tmp 30)), none⟩,
    ⟨(some 32), .call (.func i_laws_eqInt64SSSS) [(.tmp 29), (.tmp 31)], none⟩,
    ⟨(some 33), .op (.un .not (.tmp 32)), none⟩]) (.kill [28, 29, 30, 31, 32]))
  (.cond (.tmp 33) (.ghost (.kill [2, 3, 33]) (.seq (.reg [⟨(some 4), .op (.mv (.const (Value.bool false))), none⟩])
  .ret))
  (.ghost (.kill [33]) .skip)))
  (.seq (.seq (.post (.reg [⟨(some 34), .op (.faddr (.tmp 2) 5), none⟩,
    ⟨(some 35), .op (.load 1 false (.tmp 34)), none⟩,
    ⟨(some 36), .op (.faddr (.tmp 3) 5), none⟩,
    ⟨(some 37), .op (.load 1 false (.tmp 36)), none⟩,
    ⟨(some 38), .call (.func i_laws_eqInt64SSS) [(.tmp 35), (.tmp 37)], none⟩,
    ⟨(some 39), .op (.un .not (.tmp 38)), none⟩]) (.kill [2, 3, 34, 35, 36, 37, 38]))
  (.cond (.tmp 39) (.ghost (.kill [39]) (.seq (.reg [⟨(some 4), .op (.mv (.const (Value.bool false))), none⟩])
  .ret))
  (.ghost (.kill [39]) .skip)))
  (.seq (.reg [⟨(some 4), .op (.mv (.const (Value.bool true))), none⟩])
  .ret))))))))
theorem cf_laws_eqChoices : chkFn Try.prog i_laws_eqChoices ac_laws_eqChoices [.tmp 4] 40 = true := by decide +kernel
def fa_laws_eqChoices : FnA := ⟨ac_laws_eqChoices, [.tmp 4], 40, false, true, [(.agg [.any, (.lst 1 .any), (.lst 1 .any), (.lst 1 (.lst 1 (.lst 2 .any))), (.lst 1 (.lst 1 (.lst 1 (.lst 1 .any)))), (.lst 1 (.lst 1 (.lst 1 .any)))]), (.agg [.any, (.lst 1 .any), (.lst 1 .any), (.lst 1 (.lst 1 (.lst 2 .any))), (.lst 1 (.lst 1 (.lst 1 (.lst 1 .any)))), (.lst 1 (.lst 1 (.lst 1 .any)))])], .any, none⟩

/-- The checked code of laws markInt64S. -/
def lb_laws_markInt64S_0 : AC := (.seq (.seq (.post (.reg [⟨(some 6), .op (.mv (.tmp 5)), none⟩,
    ⟨(some 7), .op (.mv (.tmp 0)), none⟩,
    ⟨(some 8), .op (.len false (.tmp 7)), none⟩,
    ⟨(some 9), .op (.bin .lss (.tmp 6) (.tmp 8)), none⟩]) (.kill [6, 7, 8]))
  (.cond (.tmp 9) (.ghost (.kill [9]) .skip)
  (.ghost (.kill [0, 5, 9]) (.exit 0))))
  (.seq (.block 1 (.seq (.post (.reg [⟨(some 12), .op (.mv (.tmp 0)), none⟩,
    ⟨(some 13), .op (.mv (.tmp 5)), none⟩,
    ⟨(some 14), .op (.mv (.tmp 1)), none⟩,
    ⟨(some 15), .op (.iaddrS (.tmp 12) (.tmp 13) 1), none⟩,
    ⟨none, .op (.store 1 (.tmp 15) (.tmp 14)), none⟩]) (.kill [12, 13, 14, 15]))
  (.post (.reg [⟨(some 16), .op (.mv (.tmp 1)), none⟩,
    ⟨(some 17), .op (.bin .add (.tmp 16) (.const (Value.int .i64 1))), none⟩,
    ⟨(some 1), .op (.mv (.tmp 17)), none⟩]) (.kill [16, 17]))))
  (.post (.reg [⟨(some 10), .op (.mv (.tmp 5)), none⟩,
    ⟨(some 11), .op (.bin .add (.tmp 10) (.const (Value.int .i64 1))), none⟩,
    ⟨(some 5), .op (.mv (.tmp 11)), none⟩]) (.kill [10, 11]))))
def lo_laws_markInt64S_0 : AC := (.loop lb_laws_markInt64S_0)
def ac_laws_markInt64S : AC := (.seq (.post (.reg [⟨(some 4), .op (.mv (.const (Value.int .i64 0))), none⟩]) (.kill [4]))
  (.seq (.seq (.reg [⟨(some 5), .op (.mv (.const (Value.int .i64 0))), none⟩])
  (.block 0 lo_laws_markInt64S_0))
  (.ghost (.kill [0, 5]) (.seq (.post (.reg [⟨(some 18), .op (.mv (.tmp 1)), none⟩,
    ⟨(some 4), .op (.mv (.tmp 18)), none⟩]) (.kill [1, 18]))
  .ret))))
theorem cf_laws_markInt64S : chkFn Try.prog i_laws_markInt64S ac_laws_markInt64S [.tmp 4] 19 = true := by decide +kernel
def fa_laws_markInt64S : FnA := ⟨ac_laws_markInt64S, [.tmp 4], 19, true, false, [], .any, none⟩

/-- The checked code of laws markBoolS. -/
def lb_laws_markBoolS_0 : AC := (.seq (.seq (.post (.reg [⟨(some 6), .op (.mv (.tmp 5)), none⟩,
    ⟨(some 7), .op (.mv (.tmp 0)), none⟩,
    ⟨(some 8), .op (.len false (.tmp 7)), none⟩,
    ⟨(some 9), .op (.bin .lss (.tmp 6) (.tmp 8)), none⟩]) (.kill [6, 7, 8]))
  (.cond (.tmp 9) (.ghost (.kill [9]) .skip)
  (.ghost (.kill [0, 5, 9]) (.exit 0))))
  (.seq (.block 1 (.seq (.post (.reg [⟨(some 12), .op (.mv (.tmp 0)), none⟩,
    ⟨(some 13), .op (.mv (.tmp 5)), none⟩,
    ⟨(some 14), .op (.mv (.tmp 1)), none⟩,
    ⟨(some 15), .op (.bin .rem (.tmp 14) (.const (Value.int .i64 3))), none⟩,
    ⟨(some 16), .op (.bin .eql (.tmp 15) (.const (Value.int .i64 0))), none⟩,
    ⟨(some 17), .op (.iaddrS (.tmp 12) (.tmp 13) 1), none⟩,
    ⟨none, .op (.store 1 (.tmp 17) (.tmp 16)), none⟩]) (.kill [12, 13, 14, 15, 16, 17]))
  (.post (.reg [⟨(some 18), .op (.mv (.tmp 1)), none⟩,
    ⟨(some 19), .op (.bin .add (.tmp 18) (.const (Value.int .i64 1))), none⟩,
    ⟨(some 1), .op (.mv (.tmp 19)), none⟩]) (.kill [18, 19]))))
  (.post (.reg [⟨(some 10), .op (.mv (.tmp 5)), none⟩,
    ⟨(some 11), .op (.bin .add (.tmp 10) (.const (Value.int .i64 1))), none⟩,
    ⟨(some 5), .op (.mv (.tmp 11)), none⟩]) (.kill [10, 11]))))
def lo_laws_markBoolS_0 : AC := (.loop lb_laws_markBoolS_0)
def ac_laws_markBoolS : AC := (.seq (.post (.reg [⟨(some 4), .op (.mv (.const (Value.int .i64 0))), none⟩]) (.kill [4]))
  (.seq (.seq (.reg [⟨(some 5), .op (.mv (.const (Value.int .i64 0))), none⟩])
  (.block 0 lo_laws_markBoolS_0))
  (.ghost (.kill [0, 5]) (.seq (.post (.reg [⟨(some 20), .op (.mv (.tmp 1)), none⟩,
    ⟨(some 4), .op (.mv (.tmp 20)), none⟩]) (.kill [1, 20]))
  .ret))))
theorem cf_laws_markBoolS : chkFn Try.prog i_laws_markBoolS ac_laws_markBoolS [.tmp 4] 21 = true := by decide +kernel
def fa_laws_markBoolS : FnA := ⟨ac_laws_markBoolS, [.tmp 4], 21, true, false, [], .any, none⟩

/-- The checked code of laws markPushS. -/
def lb_laws_markPushS_0 : AC := (.seq (.seq (.post (.reg [⟨(some 6), .op (.mv (.tmp 5)), none⟩,
    ⟨(some 7), .op (.mv (.tmp 0)), none⟩,
    ⟨(some 8), .op (.len false (.tmp 7)), none⟩,
    ⟨(some 9), .op (.bin .lss (.tmp 6) (.tmp 8)), none⟩]) (.kill [6, 7, 8]))
  (.cond (.tmp 9) (.ghost (.kill [9]) .skip)
  (.ghost (.kill [0, 5, 9]) (.exit 0))))
  (.seq (.block 1 (.seq (.post (.reg [⟨(some 12), .op (.mv (.tmp 0)), none⟩,
    ⟨(some 13), .op (.mv (.tmp 5)), none⟩,
    ⟨(some 14), .op (.mv (.tmp 1)), none⟩,
    ⟨(some 15), .op (.iaddrS (.tmp 12) (.tmp 13) 2), none⟩,
    ⟨(some 16), .op (.faddr (.tmp 15) 0), none⟩,
    ⟨none, .op (.store 1 (.tmp 16) (.tmp 14)), none⟩]) (.kill [12, 13, 14, 15, 16]))
  (.seq (.post (.reg [⟨(some 17), .op (.mv (.tmp 1)), none⟩,
    ⟨(some 18), .op (.bin .add (.tmp 17) (.const (Value.int .i64 1))), none⟩,
    ⟨(some 1), .op (.mv (.tmp 18)), none⟩]) (.kill [17, 18]))
  (.seq (.post (.reg [⟨(some 19), .op (.mv (.tmp 0)), none⟩,
    ⟨(some 20), .op (.mv (.tmp 5)), none⟩,
    ⟨(some 21), .op (.mv (.tmp 1)), none⟩,
    ⟨(some 22), .op (.iaddrS (.tmp 19) (.tmp 20) 2), none⟩,
    ⟨(some 23), .op (.faddr (.tmp 22) 1), none⟩,
    ⟨none, .op (.store 1 (.tmp 23) (.tmp 21)), none⟩]) (.kill [19, 20, 21, 22, 23]))
  (.post (.reg [⟨(some 24), .op (.mv (.tmp 1)), none⟩,
    ⟨(some 25), .op (.bin .add (.tmp 24) (.const (Value.int .i64 1))), none⟩,
    ⟨(some 1), .op (.mv (.tmp 25)), none⟩]) (.kill [24, 25]))))))
  (.post (.reg [⟨(some 10), .op (.mv (.tmp 5)), none⟩,
    ⟨(some 11), .op (.bin .add (.tmp 10) (.const (Value.int .i64 1))), none⟩,
    ⟨(some 5), .op (.mv (.tmp 11)), none⟩]) (.kill [10, 11]))))
def lo_laws_markPushS_0 : AC := (.loop lb_laws_markPushS_0)
def ac_laws_markPushS : AC := (.seq (.post (.reg [⟨(some 4), .op (.mv (.const (Value.int .i64 0))), none⟩]) (.kill [4]))
  (.seq (.seq (.reg [⟨(some 5), .op (.mv (.const (Value.int .i64 0))), none⟩])
  (.block 0 lo_laws_markPushS_0))
  (.ghost (.kill [0, 5]) (.seq (.post (.reg [⟨(some 26), .op (.mv (.tmp 1)), none⟩,
    ⟨(some 4), .op (.mv (.tmp 26)), none⟩]) (.kill [1, 26]))
  .ret))))
theorem cf_laws_markPushS : chkFn Try.prog i_laws_markPushS ac_laws_markPushS [.tmp 4] 27 = true := by decide +kernel
def fa_laws_markPushS : FnA := ⟨ac_laws_markPushS, [.tmp 4], 27, true, false, [], .any, none⟩

/-- The checked code of laws markPushSS. -/
def lb_laws_markPushSS_0 : AC := (.seq (.seq (.post (.reg [⟨(some 6), .op (.mv (.tmp 5)), none⟩,
    ⟨(some 7), .op (.mv (.tmp 0)), none⟩,
    ⟨(some 8), .op (.len false (.tmp 7)), none⟩,
    ⟨(some 9), .op (.bin .lss (.tmp 6) (.tmp 8)), none⟩]) (.kill [6, 7, 8]))
  (.cond (.tmp 9) (.ghost (.kill [9]) .skip)
  (.ghost (.kill [0, 5, 9]) (.exit 0))))
  (.seq (.block 1 (.post (.reg [⟨(some 12), .op (.mv (.tmp 0)), none⟩,
    ⟨(some 13), .op (.mv (.tmp 5)), none⟩,
    ⟨(some 14), .op (.iaddrS (.tmp 12) (.tmp 13) 1), none⟩,
    ⟨(some 15), .op (.load 1 false (.tmp 14)), none⟩,
    ⟨(some 16), .op (.mv (.tmp 1)), none⟩,
    ⟨(some 17), .call (.func i_laws_markPushS) [(.tmp 15), (.tmp 16)], none⟩,
    ⟨(some 1), .op (.mv (.tmp 17)), none⟩]) (.kill [12, 13, 14, 15, 16, 17])))
  (.post (.reg [⟨(some 10), .op (.mv (.tmp 5)), none⟩,
    ⟨(some 11), .op (.bin .add (.tmp 10) (.const (Value.int .i64 1))), none⟩,
    ⟨(some 5), .op (.mv (.tmp 11)), none⟩]) (.kill [10, 11]))))
def lo_laws_markPushSS_0 : AC := (.loop lb_laws_markPushSS_0)
def ac_laws_markPushSS : AC := (.seq (.post (.reg [⟨(some 4), .op (.mv (.const (Value.int .i64 0))), none⟩]) (.kill [4]))
  (.seq (.seq (.reg [⟨(some 5), .op (.mv (.const (Value.int .i64 0))), none⟩])
  (.block 0 lo_laws_markPushSS_0))
  (.ghost (.kill [0, 5]) (.seq (.post (.reg [⟨(some 18), .op (.mv (.tmp 1)), none⟩,
    ⟨(some 4), .op (.mv (.tmp 18)), none⟩]) (.kill [1, 18]))
  .ret))))
theorem cf_laws_markPushSS : chkFn Try.prog i_laws_markPushSS ac_laws_markPushSS [.tmp 4] 19 = true := by decide +kernel
def fa_laws_markPushSS : FnA := ⟨ac_laws_markPushSS, [.tmp 4], 19, true, false, [], .any, none⟩

/-- The checked code of laws markPushSSS. -/
def lb_laws_markPushSSS_0 : AC := (.seq (.seq (.post (.reg [⟨(some 6), .op (.mv (.tmp 5)), none⟩,
    ⟨(some 7), .op (.mv (.tmp 0)), none⟩,
    ⟨(some 8), .op (.len false (.tmp 7)), none⟩,
    ⟨(some 9), .op (.bin .lss (.tmp 6) (.tmp 8)), none⟩]) (.kill [6, 7, 8]))
  (.cond (.tmp 9) (.ghost (.kill [9]) .skip)
  (.ghost (.kill [0, 5, 9]) (.exit 0))))
  (.seq (.block 1 (.post (.reg [⟨(some 12), .op (.mv (.tmp 0)), none⟩,
    ⟨(some 13), .op (.mv (.tmp 5)), none⟩,
    ⟨(some 14), .op (.iaddrS (.tmp 12) (.tmp 13) 1), none⟩,
    ⟨(some 15), .op (.load 1 false (.tmp 14)), none⟩,
    ⟨(some 16), .op (.mv (.tmp 1)), none⟩,
    ⟨(some 17), .call (.func i_laws_markPushSS) [(.tmp 15), (.tmp 16)], none⟩,
    ⟨(some 1), .op (.mv (.tmp 17)), none⟩]) (.kill [12, 13, 14, 15, 16, 17])))
  (.post (.reg [⟨(some 10), .op (.mv (.tmp 5)), none⟩,
    ⟨(some 11), .op (.bin .add (.tmp 10) (.const (Value.int .i64 1))), none⟩,
    ⟨(some 5), .op (.mv (.tmp 11)), none⟩]) (.kill [10, 11]))))
def lo_laws_markPushSSS_0 : AC := (.loop lb_laws_markPushSSS_0)
def ac_laws_markPushSSS : AC := (.seq (.post (.reg [⟨(some 4), .op (.mv (.const (Value.int .i64 0))), none⟩]) (.kill [4]))
  (.seq (.seq (.reg [⟨(some 5), .op (.mv (.const (Value.int .i64 0))), none⟩])
  (.block 0 lo_laws_markPushSSS_0))
  (.ghost (.kill [0, 5]) (.seq (.post (.reg [⟨(some 18), .op (.mv (.tmp 1)), none⟩,
    ⟨(some 4), .op (.mv (.tmp 18)), none⟩]) (.kill [1, 18]))
  .ret))))
theorem cf_laws_markPushSSS : chkFn Try.prog i_laws_markPushSSS ac_laws_markPushSSS [.tmp 4] 19 = true := by decide +kernel
def fa_laws_markPushSSS : FnA := ⟨ac_laws_markPushSSS, [.tmp 4], 19, true, false, [], .any, none⟩

/-- The checked code of laws markInt64SS. -/
def lb_laws_markInt64SS_0 : AC := (.seq (.seq (.post (.reg [⟨(some 6), .op (.mv (.tmp 5)), none⟩,
    ⟨(some 7), .op (.mv (.tmp 0)), none⟩,
    ⟨(some 8), .op (.len false (.tmp 7)), none⟩,
    ⟨(some 9), .op (.bin .lss (.tmp 6) (.tmp 8)), none⟩]) (.kill [6, 7, 8]))
  (.cond (.tmp 9) (.ghost (.kill [9]) .skip)
  (.ghost (.kill [0, 5, 9]) (.exit 0))))
  (.seq (.block 1 (.post (.reg [⟨(some 12), .op (.mv (.tmp 0)), none⟩,
    ⟨(some 13), .op (.mv (.tmp 5)), none⟩,
    ⟨(some 14), .op (.iaddrS (.tmp 12) (.tmp 13) 1), none⟩,
    ⟨(some 15), .op (.load 1 false (.tmp 14)), none⟩,
    ⟨(some 16), .op (.mv (.tmp 1)), none⟩,
    ⟨(some 17), .call (.func i_laws_markInt64S) [(.tmp 15), (.tmp 16)], none⟩,
    ⟨(some 1), .op (.mv (.tmp 17)), none⟩]) (.kill [12, 13, 14, 15, 16, 17])))
  (.post (.reg [⟨(some 10), .op (.mv (.tmp 5)), none⟩,
    ⟨(some 11), .op (.bin .add (.tmp 10) (.const (Value.int .i64 1))), none⟩,
    ⟨(some 5), .op (.mv (.tmp 11)), none⟩]) (.kill [10, 11]))))
def lo_laws_markInt64SS_0 : AC := (.loop lb_laws_markInt64SS_0)
def ac_laws_markInt64SS : AC := (.seq (.post (.reg [⟨(some 4), .op (.mv (.const (Value.int .i64 0))), none⟩]) (.kill [4]))
  (.seq (.seq (.reg [⟨(some 5), .op (.mv (.const (Value.int .i64 0))), none⟩])
  (.block 0 lo_laws_markInt64SS_0))
  (.ghost (.kill [0, 5]) (.seq (.post (.reg [⟨(some 18), .op (.mv (.tmp 1)), none⟩,
    ⟨(some 4), .op (.mv (.tmp 18)), none⟩]) (.kill [1, 18]))
  .ret))))
theorem cf_laws_markInt64SS : chkFn Try.prog i_laws_markInt64SS ac_laws_markInt64SS [.tmp 4] 19 = true := by decide +kernel
def fa_laws_markInt64SS : FnA := ⟨ac_laws_markInt64SS, [.tmp 4], 19, true, false, [], .any, none⟩

/-- The checked code of laws markInt64SSS. -/
def lb_laws_markInt64SSS_0 : AC := (.seq (.seq (.post (.reg [⟨(some 6), .op (.mv (.tmp 5)), none⟩,
    ⟨(some 7), .op (.mv (.tmp 0)), none⟩,
    ⟨(some 8), .op (.len false (.tmp 7)), none⟩,
    ⟨(some 9), .op (.bin .lss (.tmp 6) (.tmp 8)), none⟩]) (.kill [6, 7, 8]))
  (.cond (.tmp 9) (.ghost (.kill [9]) .skip)
  (.ghost (.kill [0, 5, 9]) (.exit 0))))
  (.seq (.block 1 (.post (.reg [⟨(some 12), .op (.mv (.tmp 0)), none⟩,
    ⟨(some 13), .op (.mv (.tmp 5)), none⟩,
    ⟨(some 14), .op (.iaddrS (.tmp 12) (.tmp 13) 1), none⟩,
    ⟨(some 15), .op (.load 1 false (.tmp 14)), none⟩,
    ⟨(some 16), .op (.mv (.tmp 1)), none⟩,
    ⟨(some 17), .call (.func i_laws_markInt64SS) [(.tmp 15), (.tmp 16)], none⟩,
    ⟨(some 1), .op (.mv (.tmp 17)), none⟩]) (.kill [12, 13, 14, 15, 16, 17])))
  (.post (.reg [⟨(some 10), .op (.mv (.tmp 5)), none⟩,
    ⟨(some 11), .op (.bin .add (.tmp 10) (.const (Value.int .i64 1))), none⟩,
    ⟨(some 5), .op (.mv (.tmp 11)), none⟩]) (.kill [10, 11]))))
def lo_laws_markInt64SSS_0 : AC := (.loop lb_laws_markInt64SSS_0)
def ac_laws_markInt64SSS : AC := (.seq (.post (.reg [⟨(some 4), .op (.mv (.const (Value.int .i64 0))), none⟩]) (.kill [4]))
  (.seq (.seq (.reg [⟨(some 5), .op (.mv (.const (Value.int .i64 0))), none⟩])
  (.block 0 lo_laws_markInt64SSS_0))
  (.ghost (.kill [0, 5]) (.seq (.post (.reg [⟨(some 18), .op (.mv (.tmp 1)), none⟩,
    ⟨(some 4), .op (.mv (.tmp 18)), none⟩]) (.kill [1, 18]))
  .ret))))
theorem cf_laws_markInt64SSS : chkFn Try.prog i_laws_markInt64SSS ac_laws_markInt64SSS [.tmp 4] 19 = true := by decide +kernel
def fa_laws_markInt64SSS : FnA := ⟨ac_laws_markInt64SSS, [.tmp 4], 19, true, false, [], .any, none⟩

/-- The checked code of laws markInt64SSSS. -/
def lb_laws_markInt64SSSS_0 : AC := (.seq (.seq (.post (.reg [⟨(some 6), .op (.mv (.tmp 5)), none⟩,
    ⟨(some 7), .op (.mv (.tmp 0)), none⟩,
    ⟨(some 8), .op (.len false (.tmp 7)), none⟩,
    ⟨(some 9), .op (.bin .lss (.tmp 6) (.tmp 8)), none⟩]) (.kill [6, 7, 8]))
  (.cond (.tmp 9) (.ghost (.kill [9]) .skip)
  (.ghost (.kill [0, 5, 9]) (.exit 0))))
  (.seq (.block 1 (.post (.reg [⟨(some 12), .op (.mv (.tmp 0)), none⟩,
    ⟨(some 13), .op (.mv (.tmp 5)), none⟩,
    ⟨(some 14), .op (.iaddrS (.tmp 12) (.tmp 13) 1), none⟩,
    ⟨(some 15), .op (.load 1 false (.tmp 14)), none⟩,
    ⟨(some 16), .op (.mv (.tmp 1)), none⟩,
    ⟨(some 17), .call (.func i_laws_markInt64SSS) [(.tmp 15), (.tmp 16)], none⟩,
    ⟨(some 1), .op (.mv (.tmp 17)), none⟩]) (.kill [12, 13, 14, 15, 16, 17])))
  (.post (.reg [⟨(some 10), .op (.mv (.tmp 5)), none⟩,
    ⟨(some 11), .op (.bin .add (.tmp 10) (.const (Value.int .i64 1))), none⟩,
    ⟨(some 5), .op (.mv (.tmp 11)), none⟩]) (.kill [10, 11]))))
def lo_laws_markInt64SSSS_0 : AC := (.loop lb_laws_markInt64SSSS_0)
def ac_laws_markInt64SSSS : AC := (.seq (.post (.reg [⟨(some 4), .op (.mv (.const (Value.int .i64 0))), none⟩]) (.kill [4]))
  (.seq (.seq (.reg [⟨(some 5), .op (.mv (.const (Value.int .i64 0))), none⟩])
  (.block 0 lo_laws_markInt64SSSS_0))
  (.ghost (.kill [0, 5]) (.seq (.post (.reg [⟨(some 18), .op (.mv (.tmp 1)), none⟩,
    ⟨(some 4), .op (.mv (.tmp 18)), none⟩]) (.kill [1, 18]))
  .ret))))
theorem cf_laws_markInt64SSSS : chkFn Try.prog i_laws_markInt64SSSS ac_laws_markInt64SSSS [.tmp 4] 19 = true := by decide +kernel
def fa_laws_markInt64SSSS : FnA := ⟨ac_laws_markInt64SSSS, [.tmp 4], 19, true, false, [], .any, none⟩

end Go.Proofs.Ytlolldjkahkbfaa
