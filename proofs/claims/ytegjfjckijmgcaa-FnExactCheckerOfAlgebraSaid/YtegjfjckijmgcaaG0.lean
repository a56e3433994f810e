/- The code of the functions, checked against the loaded program; printed by a program (gen2.py). -/
import Derived.Test.YtegjfjckijmgcaaProg
import Derived.Test.YtegjfjckijmgcaaAw25
set_option linter.unusedVariables false
set_option maxRecDepth 100000
namespace Go.Proofs.Ytegjfjckijmgcaa
open Aw

/-! The numbers of the functions. -/
def i_laws_FnExactCheckerOfAlgebra : FuncId := 10
def i_laws_eqChecker : FuncId := 21
def i_laws_eqInt64S : FuncId := 24
def i_laws_markChecker : FuncId := 25
def i_laws_markInt64S : FuncId := 26
def i_laws_heldInt64S : FuncId := 27
def i_laws_eqInt64SS : FuncId := 30
def i_laws_markInt64SS : FuncId := 31
def i_laws_heldInt64SS : FuncId := 32
def i_laws_toInt64S : FuncId := 34
def i_laws_szAlgebra : FuncId := 52
def i_spec_CheckerOfAlgebra : FuncId := 53
def i_laws_toAlgebra : FuncId := 54
def i_impl_CheckerOfAlgebra : FuncId := 55
def i_laws_eqAlgebra : FuncId := 56
def i_laws_markAlgebra : FuncId := 57
def i_laws_heldChecker : FuncId := 58
def i_laws_szBoolS : FuncId := 72
def i_laws_szInt64SS : FuncId := 75
def i_laws_toBoolS : FuncId := 80
def i_laws_toInt64SS : FuncId := 83
def i_laws_eqBoolS : FuncId := 89
def i_laws_eqPushSS : FuncId := 90
def i_laws_eqInt64SSS : FuncId := 91
def i_laws_markBoolS : FuncId := 97
def i_laws_markPushSS : FuncId := 98
def i_laws_markInt64SSS : FuncId := 99
def i_spec_l00In : FuncId := 102
def i_spec_l02List : FuncId := 103
def i_slices_ContainsFunc_L_int64 : FuncId := 106
def i_laws_szInt64S : FuncId := 135
def i_spec_l04Ok : FuncId := 136
def i_impl_ValidAlgebra : FuncId := 137
def i_impl_Algebra_elements : FuncId := 138
def i_impl_built : FuncId := 139
def i_impl_CheckerOfAlgebra_1 : FuncId := 140
def i_impl_CheckerOfAlgebra_2 : FuncId := 141
def i_impl_CheckerOfAlgebra_3 : FuncId := 142
def i_impl_CheckerOfAlgebra_4 : FuncId := 143
def i_laws_heldBoolS : FuncId := 144
def i_laws_heldPushSS : FuncId := 145
def i_laws_heldInt64SSS : FuncId := 146
def i_impl_size_bool : FuncId := 166
def i_impl_within : FuncId := 178
def i_impl_size_L_int64 : FuncId := 181
def i_impl_size_int64 : FuncId := 183
def i_laws_eqPushS : FuncId := 187
def i_laws_markPushS : FuncId := 189
def i_slices_IndexFunc_L_int64 : FuncId := 190
def i_impl_ValidAlgebra_1 : FuncId := 213
def i_impl_ValidAlgebra_1_1 : FuncId := 214
def i_impl_ValidAlgebra_2 : FuncId := 215
def i_slices_Concat_L_L_int64 : FuncId := 216
def i_impl_Algebra_apart : FuncId := 217
def i_laws_heldPushS : FuncId := 218
def i_laws_eqPush : FuncId := 245
def i_slices_Grow_L_L_int64 : FuncId := 264

/-- The checked code of laws eqInt64S. -/
def lb_laws_eqInt64S_0 : AC := (.seq (.seq (.post (.reg [⟨(some 11), .op (.mv (.tmp 5)), none⟩,
    ⟨(some 12), .op (.mv (.tmp 0)), none⟩,
    ⟨(some 13), .op (.len false (.tmp 12)), none⟩,
    ⟨(some 14), .op (.bin .lss (.tmp 11) (.tmp 13)), none⟩]) (.kill [11, 12, 13]))
  (.cond (.tmp 14) (.ghost (.kill [14]) .skip)
  (.ghost (.kill [0, 1, 5, 14]) (.exit 0))))
  (.seq (.block 1 (.seq (.post (.draw [⟨0, ⟨(some 17), .op (.mv (.tmp 0)), none⟩, []⟩,
    ⟨1, ⟨(some 18), .op (.mv (.tmp 5)), none⟩, []⟩,
    ⟨2, ⟨(some 19), .op (.iaddrS (.tmp 17) (.tmp 18) 1), none⟩, []⟩,
    ⟨3, ⟨(some 20), .op (.load 1 false (.tmp 19)), none⟩, []⟩,
    ⟨4, ⟨(some 21), .op (.mv (.tmp 1)), none⟩, []⟩,
    ⟨5, ⟨(some 22), .op (.mv (.tmp 5)), none⟩, []⟩,
    ⟨6, ⟨(some 23), .op (.iaddrS (.tmp 21) (.tmp 22) 1), none⟩, []⟩,
    ⟨7, ⟨(some 24), .op (.load 1 false (.tmp 23)), none⟩, []⟩,
    ⟨8, ⟨(some 25), .op (.bin .neq (.tmp 20) (.tmp 24)), none⟩, []⟩]
    [0, 0, 3, 7, 0, 0, 48, 112, 255]) (.kill [17, 18, 19, 20, 21, 22, 23, 24]))
  (.cond (.tmp 25) (.ghost (.kill [0, 1, 5, 25]) (.seq (.reg [⟨(some 4), .op (.mv (.const (Value.bool false))), none⟩])
  .ret))
  (.ghost (.kill [25]) .skip))))
  (.post (.reg [⟨(some 15), .op (.mv (.tmp 5)), none⟩,
    ⟨(some 16), .op (.bin .add (.tmp 15) (.const (Value.int .i64 1))), none⟩,
    ⟨(some 5), .op (.mv (.tmp 16)), none⟩]) (.kill [15, 16]))))
def lo_laws_eqInt64S_0 : AC := (.loop lb_laws_eqInt64S_0)
def ac_laws_eqInt64S : AC := (.seq (.post (.reg [⟨(some 4), .op (.mv (.const (Value.bool false))), none⟩]) (.kill [4]))
  (.seq (.seq (.post (.reg [⟨(some 6), .op (.mv (.tmp 0)), none⟩,
    ⟨(some 7), .op (.len false (.tmp 6)), none⟩,
    ⟨(some 8), .op (.mv (.tmp 1)), none⟩,
    ⟨(some 9), .op (.len false (.tmp 8)), none⟩,
    ⟨(some 10), .op (.bin .neq (.tmp 7) (.tmp 9)), none⟩]) (.kill [6, 7, 8, 9]))
  (.cond (.tmp 10) (.ghost (.kill [0, 1, 10]) (.seq (.reg [⟨(some 4), .op (.mv (.const (Value.bool false))), none⟩])
  .ret))
  (.ghost (.kill [10]) .skip)))
  (.seq (.seq (.reg [⟨(some 5), .op (.mv (.const (Value.int .i64 0))), none⟩])
  (.block 0 lo_laws_eqInt64S_0))
  (.ghost (.kill [0, 1, 5]) (.seq (.reg [⟨(some 4), .op (.mv (.const (Value.bool true))), none⟩])
  .ret)))))
theorem cf_laws_eqInt64S : chkFn Try.prog i_laws_eqInt64S ac_laws_eqInt64S [.tmp 4] 26 = true := by decide +kernel
def fa_laws_eqInt64S : FnA := ⟨ac_laws_eqInt64S, [.tmp 4], 26, false, true, [(.lst 1 .any), (.lst 1 .any)], .any, none⟩

/-- The checked code of laws eqInt64SS. -/
def lb_laws_eqInt64SS_0 : AC := (.seq (.seq (.post (.reg [⟨(some 11), .op (.mv (.tmp 5)), none⟩,
    ⟨(some 12), .op (.mv (.tmp 0)), none⟩,
    ⟨(some 13), .op (.len false (.tmp 12)), none⟩,
    ⟨(some 14), .op (.bin .lss (.tmp 11) (.tmp 13)), none⟩]) (.kill [11, 12, 13]))
  (.cond (.tmp 14) (.ghost (.kill [14]) .skip)
  (.ghost (.kill [0, 1, 5, 14]) (.exit 0))))
  (.seq (.block 1 (.seq (.post (.draw [⟨0, ⟨(some 17), .op (.mv (.tmp 0)), none⟩, []⟩,
    ⟨1, ⟨(some 18), .op (.mv (.tmp 5)), none⟩, []⟩,
    ⟨2, ⟨(some 19), .op (.iaddrS (.tmp 17) (.tmp 18) 1), none⟩, []⟩,
    ⟨3, ⟨(some 20), .op (.load 1 false (.tmp 19)), none⟩, []⟩,
    ⟨4, ⟨(some 21), .op (.mv (.tmp 1)), none⟩, []⟩,
    ⟨5, ⟨(some 22), .op (.mv (.tmp 5)), none⟩, []⟩,
    ⟨6, ⟨(some 23), .op (.iaddrS (.tmp 21) (.tmp 22) 1), none⟩, []⟩,
    ⟨7, ⟨(some 24), .op (.load 1 false (.tmp 23)), none⟩, []⟩,
    ⟨8, ⟨(some 25), .call (.func i_laws_eqInt64S) [(.tmp 20), (.tmp 24)], none⟩, []⟩,
    ⟨9, ⟨(some 26), .op (.un .not (.tmp 25)), none⟩, []⟩]
    [0, 0, 3, 7, 0, 0, 48, 112, 255, 511]) (.kill [17, 18, 19, 20, 21, 22, 23, 24, 25]))
  (.cond (.tmp 26) (.ghost (.kill [0, 1, 5, 26]) (.seq (.reg [⟨(some 4), .op (.mv (.const (Value.bool false))), none⟩])
  .ret))
  (.ghost (.kill [26]) .skip))))
  (.post (.reg [⟨(some 15), .op (.mv (.tmp 5)), none⟩,
    ⟨(some 16), .op (.bin .add (.tmp 15) (.const (Value.int .i64 1))), none⟩,
    ⟨(some 5), .op (.mv (.tmp 16)), none⟩]) (.kill [15, 16]))))
def lo_laws_eqInt64SS_0 : AC := (.loop lb_laws_eqInt64SS_0)
def ac_laws_eqInt64SS : AC := (.seq (.post (.reg [⟨(some 4), .op (.mv (.const (Value.bool false))), none⟩]) (.kill [4]))
  (.seq (.seq (.post (.reg [⟨(some 6), .op (.mv (.tmp 0)), none⟩,
    ⟨(some 7), .op (.len false (.tmp 6)), none⟩,
    ⟨(some 8), .op (.mv (.tmp 1)), none⟩,
    ⟨(some 9), .op (.len false (.tmp 8)), none⟩,
    ⟨(some 10), .op (.bin .neq (.tmp 7) (.tmp 9)), none⟩]) (.kill [6, 7, 8, 9]))
  (.cond (.tmp 10) (.ghost (.kill [0, 1, 10]) (.seq (.reg [⟨(some 4), .op (.mv (.const (Value.bool false))), none⟩])
  .ret))
  (.ghost (.kill [10]) .skip)))
  (.seq (.seq (.reg [⟨(some 5), .op (.mv (.const (Value.int .i64 0))), none⟩])
  (.block 0 lo_laws_eqInt64SS_0))
  (.ghost (.kill [0, 1, 5]) (.seq (.reg [⟨(some 4), .op (.mv (.const (Value.bool true))), none⟩])
  .ret)))))
theorem cf_laws_eqInt64SS : chkFn Try.prog i_laws_eqInt64SS ac_laws_eqInt64SS [.tmp 4] 27 = true := by decide +kernel
def fa_laws_eqInt64SS : FnA := ⟨ac_laws_eqInt64SS, [.tmp 4], 27, false, true, [(.lst 1 (.lst 1 .any)), (.lst 1 (.lst 1 .any))], .any, none⟩

/-- The checked code of laws eqBoolS. -/
def lb_laws_eqBoolS_0 : AC := (.seq (.seq (.post (.reg [⟨(some 11), .op (.mv (.tmp 5)), none⟩,
    ⟨(some 12), .op (.mv (.tmp 0)), none⟩,
    ⟨(some 13), .op (.len false (.tmp 12)), none⟩,
    ⟨(some 14), .op (.bin .lss (.tmp 11) (.tmp 13)), none⟩]) (.kill [11, 12, 13]))
  (.cond (.tmp 14) (.ghost (.kill [14]) .skip)
  (.ghost (.kill [0, 1, 5, 14]) (.exit 0))))
  (.seq (.block 1 (.seq (.post (.draw [⟨0, ⟨(some 17), .op (.mv (.tmp 0)), none⟩, []⟩,
    ⟨1, ⟨(some 18), .op (.mv (.tmp 5)), none⟩, []⟩,
    ⟨2, ⟨(some 19), .op (.iaddrS (.tmp 17) (.tmp 18) 1), none⟩, []⟩,
    ⟨3, ⟨(some 20), .op (.load 1 false (.tmp 19)), none⟩, []⟩,
    ⟨4, ⟨(some 21), .op (.mv (.tmp 1)), none⟩, []⟩,
    ⟨5, ⟨(some 22), .op (.mv (.tmp 5)), none⟩, []⟩,
    ⟨6, ⟨(some 23), .op (.iaddrS (.tmp 21) (.tmp 22) 1), none⟩, []⟩,
    ⟨7, ⟨(some 24), .op (.load 1 false (.tmp 23)), none⟩, []⟩,
    ⟨8, ⟨(some 25), .op (.eqb true (.tmp 20) (.tmp 24)), none⟩, []⟩]
    [0, 0, 3, 7, 0, 0, 48, 112, 255]) (.kill [17, 18, 19, 20, 21, 22, 23, 24]))
  (.cond (.tmp 25) (.ghost (.kill [0, 1, 5, 25]) (.seq (.reg [⟨(some 4), .op (.mv (.const (Value.bool false))), none⟩])
  .ret))
  (.ghost (.kill [25]) .skip))))
  (.post (.reg [⟨(some 15), .op (.mv (.tmp 5)), none⟩,
    ⟨(some 16), .op (.bin .add (.tmp 15) (.const (Value.int .i64 1))), none⟩,
    ⟨(some 5), .op (.mv (.tmp 16)), none⟩]) (.kill [15, 16]))))
def lo_laws_eqBoolS_0 : AC := (.loop lb_laws_eqBoolS_0)
def ac_laws_eqBoolS : AC := (.seq (.post (.reg [⟨(some 4), .op (.mv (.const (Value.bool false))), none⟩]) (.kill [4]))
  (.seq (.seq (.post (.reg [⟨(some 6), .op (.mv (.tmp 0)), none⟩,
    ⟨(some 7), .op (.len false (.tmp 6)), none⟩,
    ⟨(some 8), .op (.mv (.tmp 1)), none⟩,
    ⟨(some 9), .op (.len false (.tmp 8)), none⟩,
    ⟨(some 10), .op (.bin .neq (.tmp 7) (.tmp 9)), none⟩]) (.kill [6, 7, 8, 9]))
  (.cond (.tmp 10) (.ghost (.kill [0, 1, 10]) (.seq (.reg [⟨(some 4), .op (.mv (.const (Value.bool false))), none⟩])
  .ret))
  (.ghost (.kill [10]) .skip)))
  (.seq (.seq (.reg [⟨(some 5), .op (.mv (.const (Value.int .i64 0))), none⟩])
  (.block 0 lo_laws_eqBoolS_0))
  (.ghost (.kill [0, 1, 5]) (.seq (.reg [⟨(some 4), .op (.mv (.const (Value.bool true))), none⟩])
  .ret)))))
theorem cf_laws_eqBoolS : chkFn Try.prog i_laws_eqBoolS ac_laws_eqBoolS [.tmp 4] 26 = true := by decide +kernel
def fa_laws_eqBoolS : FnA := ⟨ac_laws_eqBoolS, [.tmp 4], 26, false, true, [], .any, none⟩

/-- The checked code of laws eqPush. -/
def ac_laws_eqPush : AC := (.seq (.post (.reg [⟨(some 2), .op (.box true (.tmp 0)), none⟩,
    ⟨(some 3), .op (.box true (.tmp 1)), none⟩,
    ⟨(some 4), .op (.mv (.const (Value.bool false))), none⟩]) (.kill [0, 1, 4]))
  (.seq (.seq (.post (.reg [⟨(some 5), .op (.faddr (.tmp 2) 0), none⟩,
    ⟨(some 6), .op (.load 1 false (.tmp 5)), none⟩,
    ⟨(some 7), .op (.faddr (.tmp 3) 0), none⟩,
    ⟨(some 8), .op (.load 1 false (.tmp 7)), none⟩,
    ⟨(some 9), .op (.bin .neq (.tmp 6) (.tmp 8)), none⟩]) (.kill [5, 6, 7, 8]))
  (.cond (.tmp 9) (.ghost (.kill [2, 3, 9]) (.seq (.reg [⟨(some 4), .op (.mv (.const (Value.bool false))), none⟩])
  .ret))
  (.ghost (.kill [9]) .skip)))
  (.seq (.seq (.post (.reg [⟨(some 10), .op (.faddr (.tmp 2) 1), none⟩,
    ⟨(some 11), .op (.load 1 false (.tmp 10)), none⟩,
    ⟨(some 12), .op (.faddr (.tmp 3) 1), none⟩,
    ⟨(some 13), .op (.load 1 false (.tmp 12)), none⟩,
    ⟨(some 14), .op (.bin .neq (.tmp 11) (.tmp 13)), none⟩]) (.kill [2, 3, 10, 11, 12, 13]))
  (.cond (.tmp 14) (.ghost (.kill [14]) (.seq (.reg [⟨(some 4), .op (.mv (.const (Value.bool false))), none⟩])
  .ret))
  (.ghost (.kill [14]) .skip)))
  (.seq (.reg [⟨(some 4), .op (.mv (.const (Value.bool true))), none⟩])
  .ret))))
theorem cf_laws_eqPush : chkFn Try.prog i_laws_eqPush ac_laws_eqPush [.tmp 4] 15 = true := by decide +kernel
def fa_laws_eqPush : FnA := ⟨ac_laws_eqPush, [.tmp 4], 15, false, true, [], .any, none⟩

/-- The checked code of laws eqPushS. -/
def lb_laws_eqPushS_0 : AC := (.seq (.seq (.post (.reg [⟨(some 11), .op (.mv (.tmp 5)), none⟩,
    ⟨(some 12), .op (.mv (.tmp 0)), none⟩,
    ⟨(some 13), .op (.len false (.tmp 12)), none⟩,
    ⟨(some 14), .op (.bin .lss (.tmp 11) (.tmp 13)), none⟩]) (.kill [11, 12, 13]))
  (.cond (.tmp 14) (.ghost (.kill [14]) .skip)
  (.ghost (.kill [0, 1, 5, 14]) (.exit 0))))
  (.seq (.block 1 (.seq (.post (.draw [⟨0, ⟨(some 17), .op (.mv (.tmp 0)), none⟩, []⟩,
    ⟨1, ⟨(some 18), .op (.mv (.tmp 5)), none⟩, []⟩,
    ⟨2, ⟨(some 19), .op (.iaddrS (.tmp 17) (.tmp 18) 2), none⟩, []⟩,
    ⟨3, ⟨(some 20), .op (.load 2 true (.tmp 19)), none⟩, []⟩,
    ⟨4, ⟨(some 21), .op (.mv (.tmp 1)), none⟩, []⟩,
    ⟨5, ⟨(some 22), .op (.mv (.tmp 5)), none⟩, []⟩,
    ⟨6, ⟨(some 23), .op (.iaddrS (.tmp 21) (.tmp 22) 2), none⟩, []⟩,
    ⟨7, ⟨(some 24), .op (.load 2 true (.tmp 23)), none⟩, []⟩,
    ⟨8, ⟨(some 25), .call (.func i_laws_eqPush) [(.tmp 20), (.tmp 24)], none⟩, []⟩,
    ⟨9, ⟨(some 26), .op (.un .not (.tmp 25)), none⟩, []⟩]
    [0, 0, 3, 7, 0, 0, 48, 112, 255, 511]) (.kill [17, 18, 19, 20, 21, 22, 23, 24, 25]))
  (.cond (.tmp 26) (.ghost (.kill [0, 1, 5, 26]) (.seq (.reg [⟨(some 4), .op (.mv (.const (Value.bool false))), none⟩])
  .ret))
  (.ghost (.kill [26]) .skip))))
  (.post (.reg [⟨(some 15), .op (.mv (.tmp 5)), none⟩,
    ⟨(some 16), .op (.bin .add (.tmp 15) (.const (Value.int .i64 1))), none⟩,
    ⟨(some 5), .op (.mv (.tmp 16)), none⟩]) (.kill [15, 16]))))
def lo_laws_eqPushS_0 : AC := (.loop lb_laws_eqPushS_0)
def ac_laws_eqPushS : AC := (.seq (.post (.reg [⟨(some 4), .op (.mv (.const (Value.bool false))), none⟩]) (.kill [4]))
  (.seq (.seq (.post (.reg [⟨(some 6), .op (.mv (.tmp 0)), none⟩,
    ⟨(some 7), .op (.len false (.tmp 6)), none⟩,
    ⟨(some 8), .op (.mv (.tmp 1)), none⟩,
    ⟨(some 9), .op (.len false (.tmp 8)), none⟩,
    ⟨(some 10), .op (.bin .neq (.tmp 7) (.tmp 9)), none⟩]) (.kill [6, 7, 8, 9]))
  (.cond (.tmp 10) (.ghost (.kill [0, 1, 10]) (.seq (.reg [⟨(some 4), .op (.mv (.const (Value.bool false))), none⟩])
  .ret))
  (.ghost (.kill [10]) .skip)))
  (.seq (.seq (.reg [⟨(some 5), .op (.mv (.const (Value.int .i64 0))), none⟩])
  (.block 0 lo_laws_eqPushS_0))
  (.ghost (.kill [0, 1, 5]) (.seq (.reg [⟨(some 4), .op (.mv (.const (Value.bool true))), none⟩])
  .ret)))))
theorem cf_laws_eqPushS : chkFn Try.prog i_laws_eqPushS ac_laws_eqPushS [.tmp 4] 27 = true := by decide +kernel
def fa_laws_eqPushS : FnA := ⟨ac_laws_eqPushS, [.tmp 4], 27, false, true, [], .any, none⟩

/-- The checked code of laws eqPushSS. -/
def lb_laws_eqPushSS_0 : AC := (.seq (.seq (.post (.reg [⟨(some 11), .op (.mv (.tmp 5)), none⟩,
    ⟨(some 12), .op (.mv (.tmp 0)), none⟩,
    ⟨(some 13), .op (.len false (.tmp 12)), none⟩,
    ⟨(some 14), .op (.bin .lss (.tmp 11) (.tmp 13)), none⟩]) (.kill [11, 12, 13]))
  (.cond (.tmp 14) (.ghost (.kill [14]) .skip)
  (.ghost (.kill [0, 1, 5, 14]) (.exit 0))))
  (.seq (.block 1 (.seq (.post (.draw [⟨0, ⟨(some 17), .op (.mv (.tmp 0)), none⟩, []⟩,
    ⟨1, ⟨(some 18), .op (.mv (.tmp 5)), none⟩, []⟩,
    ⟨2, ⟨(some 19), .op (.iaddrS (.tmp 17) (.tmp 18) 1), none⟩, []⟩,
    ⟨3, ⟨(some 20), .op (.load 1 false (.tmp 19)), none⟩, []⟩,
    ⟨4, ⟨(some 21), .op (.mv (.tmp 1)), none⟩, []⟩,
    ⟨5, ⟨(some 22), .op (.mv (.tmp 5)), none⟩, []⟩,
    ⟨6, ⟨(some 23), .op (.iaddrS (.tmp 21) (.tmp 22) 1), none⟩, []⟩,
    ⟨7, ⟨(some 24), .op (.load 1 false (.tmp 23)), none⟩, []⟩,
    ⟨8, ⟨(some 25), .call (.func i_laws_eqPushS) [(.tmp 20), (.tmp 24)], none⟩, []⟩,
    ⟨9, ⟨(some 26), .op (.un .not (.tmp 25)), none⟩, []⟩]
    [0, 0, 3, 7, 0, 0, 48, 112, 255, 511]) (.kill [17, 18, 19, 20, 21, 22, 23, 24, 25]))
  (.cond (.tmp 26) (.ghost (.kill [0, 1, 5, 26]) (.seq (.reg [⟨(some 4), .op (.mv (.const (Value.bool false))), none⟩])
  .ret))
  (.ghost (.kill [26]) .skip))))
  (.post (.reg [⟨(some 15), .op (.mv (.tmp 5)), none⟩,
    ⟨(some 16), .op (.bin .add (.tmp 15) (.const (Value.int .i64 1))), none⟩,
    ⟨(some 5), .op (.mv (.tmp 16)), none⟩]) (.kill [15, 16]))))
def lo_laws_eqPushSS_0 : AC := (.loop lb_laws_eqPushSS_0)
def ac_laws_eqPushSS : AC := (.seq (.post (.reg [⟨(some 4), .op (.mv (.const (Value.bool false))), none⟩]) (.kill [4]))
  (.seq (.seq (.post (.reg [⟨(some 6), .op (.mv (.tmp 0)), none⟩,
    ⟨(some 7), .op (.len false (.tmp 6)), none⟩,
    ⟨(some 8), .op (.mv (.tmp 1)), none⟩,
    ⟨(some 9), .op (.len false (.tmp 8)), none⟩,
    ⟨(some 10), .op (.bin .neq (.tmp 7) (.tmp 9)), none⟩]) (.kill [6, 7, 8, 9]))
  (.cond (.tmp 10) (.ghost (.kill [0, 1, 10]) (.seq (.reg [⟨(some 4), .op (.mv (.const (Value.bool false))), none⟩])
  .ret))
  (.ghost (.kill [10]) .skip)))
  (.seq (.seq (.reg [⟨(some 5), .op (.mv (.const (Value.int .i64 0))), none⟩])
  (.block 0 lo_laws_eqPushSS_0))
  (.ghost (.kill [0, 1, 5]) (.seq (.reg [⟨(some 4), .op (.mv (.const (Value.bool true))), none⟩])
  .ret)))))
theorem cf_laws_eqPushSS : chkFn Try.prog i_laws_eqPushSS ac_laws_eqPushSS [.tmp 4] 27 = true := by decide +kernel
def fa_laws_eqPushSS : FnA := ⟨ac_laws_eqPushSS, [.tmp 4], 27, false, true, [], .any, none⟩

/-- The checked code of laws eqInt64SSS. -/
def lb_laws_eqInt64SSS_0 : AC := (.seq (.seq (.post (.reg [⟨(some 11), .op (.mv (.tmp 5)), none⟩,
    ⟨(some 12), .op (.mv (.tmp 0)), none⟩,
    ⟨(some 13), .op (.len false (.tmp 12)), none⟩,
    ⟨(some 14), .op (.bin .lss (.tmp 11) (.tmp 13)), none⟩]) (.kill [11, 12, 13]))
  (.cond (.tmp 14) (.ghost (.kill [14]) .skip)
  (.ghost (.kill [0, 1, 5, 14]) (.exit 0))))
  (.seq (.block 1 (.seq (.post (.draw [⟨0, ⟨(some 17), .op (.mv (.tmp 0)), none⟩, []⟩,
    ⟨1, ⟨(some 18), .op (.mv (.tmp 5)), none⟩, []⟩,
    ⟨2, ⟨(some 19), .op (.iaddrS (.tmp 17) (.tmp 18) 1), none⟩, []⟩,
    ⟨3, ⟨(some 20), .op (.load 1 false (.tmp 19)), none⟩, []⟩,
    ⟨4, ⟨(some 21), .op (.mv (.tmp 1)), none⟩, []⟩,
    ⟨5, ⟨(some 22), .op (.mv (.tmp 5)), none⟩, []⟩,
    ⟨6, ⟨(some 23), .op (.iaddrS (.tmp 21) (.tmp 22) 1), none⟩, []⟩,
    ⟨7, ⟨(some 24), .op (.load 1 false (.tmp 23)), none⟩, []⟩,
    ⟨8, ⟨(some 25), .call (.func i_laws_eqInt64SS) [(.tmp 20), (.tmp 24)], none⟩, []⟩,
    ⟨9, ⟨(some 26), .op (.un .not (.tmp 25)), none⟩, []⟩]
    [0, 0, 3, 7, 0, 0, 48, 112, 255, 511]) (.kill [17, 18, 19, 20, 21, 22, 23, 24, 25]))
  (.cond (.tmp 26) (.ghost (.kill [0, 1, 5, 26]) (.seq (.reg [⟨(some 4), .op (.mv (.const (Value.bool false))), none⟩])
  .ret))
  (.ghost (.kill [26]) .skip))))
  (.post (.reg [⟨(some 15), .op (.mv (.tmp 5)), none⟩,
    ⟨(some 16), .op (.bin .add (.tmp 15) (.const (Value.int .i64 1))), none⟩,
    ⟨(some 5), .op (.mv (.tmp 16)), none⟩]) (.kill [15, 16]))))
def lo_laws_eqInt64SSS_0 : AC := (.loop lb_laws_eqInt64SSS_0)
def ac_laws_eqInt64SSS : AC := (.seq (.post (.reg [⟨(some 4), .op (.mv (.const (Value.bool false))), none⟩]) (.kill [4]))
  (.seq (.seq (.post (.reg [⟨(some 6), .op (.mv (.tmp 0)), none⟩,
    ⟨(some 7), .op (.len false (.tmp 6)), none⟩,
    ⟨(some 8), .op (.mv (.tmp 1)), none⟩,
    ⟨(some 9), .op (.len false (.tmp 8)), none⟩,
    ⟨(some 10), .op (.bin .neq (.tmp 7) (.tmp 9)), none⟩]) (.kill [6, 7, 8, 9]))
  (.cond (.tmp 10) (.ghost (.kill [0, 1, 10]) (.seq (.reg [⟨(some 4), .op (.mv (.const (Value.bool false))), none⟩])
  .ret))
  (.ghost (.kill [10]) .skip)))
  (.seq (.seq (.reg [⟨(some 5), .op (.mv (.const (Value.int .i64 0))), none⟩])
  (.block 0 lo_laws_eqInt64SSS_0))
  (.ghost (.kill [0, 1, 5]) (.seq (.reg [⟨(some 4), .op (.mv (.const (Value.bool true))), none⟩])
  .ret)))))
theorem cf_laws_eqInt64SSS : chkFn Try.prog i_laws_eqInt64SSS ac_laws_eqInt64SSS [.tmp 4] 27 = true := by decide +kernel
def fa_laws_eqInt64SSS : FnA := ⟨ac_laws_eqInt64SSS, [.tmp 4], 27, false, true, [], .any, none⟩

/-- The checked code of laws eqChecker. -/
def ac_laws_eqChecker : AC := (.seq (.post (.reg [⟨(some 2), .op (.box true (.tmp 0)), none⟩,
    ⟨(some 3), .op (.box true (.tmp 1)), none⟩,
    ⟨(some 4), .op (.mv (.const (Value.bool false))), none⟩]) (.kill [0, 1, 4]))
  (.seq (.seq (.post (.reg [⟨(some 5), .op (.faddr (.tmp 2) 0), none⟩,
    ⟨(some 6), .op (.load 1 false (.tmp 5)), none⟩,
    ⟨(some 7), .op (.faddr (.tmp 3) 0), none⟩,
    ⟨(some 8), .op (.load 1 false (.tmp 7)), none⟩,
    ⟨(some 9), .op (.bin .neq (.tmp 6) (.tmp 8)), none⟩]) (.kill [5, 6, 7, 8]))
  (.cond (.tmp 9) (.ghost (.kill [2, 3, 9]) (.seq (.reg [⟨(some 4), .op (.mv (.const (Value.bool false))), none⟩])
  .ret))
  (.ghost (.kill [9]) .skip)))
  (.seq (.seq (.post (.reg [⟨(some 10), .op (.faddr (.tmp 2) 1), none⟩,
    ⟨(some 11), .op (.load 1 false (.tmp 10)), none⟩,
    ⟨(some 12), .op (.faddr (.tmp 3) 1), none⟩,
    ⟨(some 13), .op (.load 1 false (.tmp 12)), none⟩,
    ⟨(some 14), .op (.bin .neq (.tmp 11) (.tmp 13)), none⟩]) (.kill [10, 11, 12, 13]))
  (.cond (.tmp 14) (.ghost (.kill [2, 3, 14]) (.seq (.reg [⟨(some 4), .op (.mv (.const (Value.bool false))), none⟩])
  .ret))
  (.ghost (.kill [14]) .skip)))
  (.seq (.seq (.post (.reg [⟨(some 15), .op (.faddr (.tmp 2) 2), none⟩,
    ⟨(some 16), .op (.load 1 false (.tmp 15)), none⟩,
    ⟨(some 17), .op (.faddr (.tmp 3) 2), none⟩,
    ⟨(some 18), .op (.load 1 false (.tmp 17)), none⟩,
    ⟨(some 19), .call (.func i_laws_eqBoolS) [(.tmp 16), (.tmp 18)], none⟩,
    ⟨(some 20), .op (.un .not (.tmp 19)), none⟩]) (.kill [15, 16, 17, 18, 19]))
  (.cond (.tmp 20) (.ghost (.kill [2, 3, 20]) (.seq (.reg [⟨(some 4), .op (.mv (.const (Value.bool false))), none⟩])
  .ret))
  (.ghost (.kill [20]) .skip)))
  (.seq (.seq (.post (.reg [⟨(some 21), .op (.faddr (.tmp 2) 3), none⟩,
    ⟨(some 22), .op (.load 1 false (.tmp 21)), none⟩,
    ⟨(some 23), .op (.faddr (.tmp 3) 3), none⟩,
    ⟨(some 24), .op (.load 1 false (.tmp 23)), none⟩,
    ⟨(some 25), .call (.func i_laws_eqPushSS) [(.tmp 22), (.tmp 24)], none⟩,
    ⟨(some 26), .op (.un .not (.tmp 25)), none⟩]) (.kill [21, 22, 23, 24, 25]))
  (.cond (.tmp 26) (.ghost (.kill [2, 3, 26]) (.seq (.reg [⟨(some 4), .op (.mv (.const (Value.bool false))), none⟩])
  .ret))
  (.ghost (.kill [26]) .skip)))
  (.seq (.seq (.post (.reg [⟨(some 27), .op (.faddr (.tmp 2) 4), none⟩,
    ⟨(some 28), .op (.load 1 false (.tmp 27)), none⟩,
    ⟨(some 29), .op (.faddr (.tmp 3) 4), none⟩,
    ⟨(some 30), .op (.load 1 false (.tmp 29)), none⟩,
    ⟨(some 31), .call (.func i_laws_eqInt64SSS) [(.tmp 28), (.tmp 30)], none⟩,
    ⟨(some 32), .op (.un .not (.tmp 31)), none⟩]) (.kill [27, 28, 29, 30, 31]))
  (.cond (.tmp 32) (.ghost (.kill [2, 3, 32]) (.seq (.reg [⟨(some 4), .op (.mv (.const (Value.bool false))), none⟩])
  .ret))
  (.ghost (.kill [32]) .skip)))
  (.seq (.seq (.post (.reg [⟨(some 33), .op (.faddr (.tmp 2) 5), none⟩,
    ⟨(some 34), .op (.load 1 false (.tmp 33)), none⟩,
    ⟨(some 35), .op (.faddr (.tmp 3) 5), none⟩,
    ⟨(some 36), .op (.load 1 false (.tmp 35)), none⟩,
    ⟨(some 37), .call (.func i_laws_eqInt64SS) [(.tmp 34), (.tmp 36)], none⟩,
    ⟨(some 38), .op (.un .not (.tmp 37)), none⟩]) (.kill [2, 3, 33, 34, 35, 36, 37]))
  (.cond (.tmp 38) (.ghost (.kill [38]) (.seq (.reg [⟨(some 4), .op (.mv (.const (Value.bool false))), none⟩])
  .ret))
  (.ghost (.kill [38]) .skip)))
  (.seq (.reg [⟨(some 4), .op (.mv (.const (Value.bool true))), none⟩])
  .ret))))))))
theorem cf_laws_eqChecker : chkFn Try.prog i_laws_eqChecker ac_laws_eqChecker [.tmp 4] 39 = true := by decide +kernel
def fa_laws_eqChecker : FnA := ⟨ac_laws_eqChecker, [.tmp 4], 39, false, true, [(.agg [.any, .any, (.lst 1 .any), (.lst 1 (.lst 2 .any)), (.lst 1 (.lst 1 (.lst 1 .any))), (.lst 1 (.lst 1 .any))]), (.agg [.any, .any, (.lst 1 .any), (.lst 1 (.lst 2 .any)), (.lst 1 (.lst 1 (.lst 1 .any))), (.lst 1 (.lst 1 .any))])], .any, none⟩

/-- The checked code of laws markInt64S. -/
def lb_laws_markInt64S_0 : AC := (.seq (.seq (.post (.reg [⟨(some 6), .op (.mv (.tmp 5)), none⟩,
    ⟨(some 7), .op (.mv (.tmp 0)), none⟩,
    ⟨(some 8), .op (.len false (.tmp 7)), none⟩,
    ⟨(some 9), .op (.bin .lss (.tmp 6) (.tmp 8)), none⟩]) (.kill [6, 7, 8]))
  (.cond (.tmp 9) (.ghost (.kill [9]) .skip)
  (.ghost (.kill [0, 5, 9]) (.exit 0))))
  (.seq (.block 1 (.seq (.post (.reg [⟨(some 12), .op (.mv (.tmp 0)), none⟩,
    ⟨(some 13), .op (.mv (.tmp 5)), none⟩,
    ⟨(some 14), .op (.mv (.tmp 1)), none⟩,
    ⟨(some 15), .op (.iaddrS (.tmp 12) (.tmp 13) 1), none⟩,
    ⟨none, .op (.store 1 (.tmp 15) (.tmp 14)), none⟩]) (.kill [12, 13, 14, 15]))
  (.post (.reg [⟨(some 16), .op (.mv (.tmp 1)), none⟩,
    ⟨(some 17), .op (.bin .add (.tmp 16) (.const (Value.int .i64 1))), none⟩,
    ⟨(some 1), .op (.mv (.tmp 17)), none⟩]) (.kill [16, 17]))))
  (.post (.reg [⟨(some 10), .op (.mv (.tmp 5)), none⟩,
    ⟨(some 11), .op (.bin .add (.tmp 10) (.const (Value.int .i64 1))), none⟩,
    ⟨(some 5), .op (.mv (.tmp 11)), none⟩]) (.kill [10, 11]))))
def lo_laws_markInt64S_0 : AC := (.loop lb_laws_markInt64S_0)
def ac_laws_markInt64S : AC := (.seq (.post (.reg [⟨(some 4), .op (.mv (.const (Value.int .i64 0))), none⟩]) (.kill [4]))
  (.seq (.seq (.reg [⟨(some 5), .op (.mv (.const (Value.int .i64 0))), none⟩])
  (.block 0 lo_laws_markInt64S_0))
  (.ghost (.kill [0, 5]) (.seq (.post (.reg [⟨(some 18), .op (.mv (.tmp 1)), none⟩,
    ⟨(some 4), .op (.mv (.tmp 18)), none⟩]) (.kill [1, 18]))
  .ret))))
theorem cf_laws_markInt64S : chkFn Try.prog i_laws_markInt64S ac_laws_markInt64S [.tmp 4] 19 = true := by decide +kernel
def fa_laws_markInt64S : FnA := ⟨ac_laws_markInt64S, [.tmp 4], 19, true, false, [], .any, none⟩

/-- The checked code of laws markInt64SS. -/
def lb_laws_markInt64SS_0 : AC := (.seq (.seq (.post (.reg [⟨(some 6), .op (.mv (.tmp 5)), none⟩,
    ⟨(some 7), .op (.mv (.tmp 0)), none⟩,
    ⟨(some 8), .op (.len false (.tmp 7)), none⟩,
    ⟨(some 9), .op (.bin .lss (.tmp 6) (.tmp 8)), none⟩]) (.kill [6, 7, 8]))
  (.cond (.tmp 9) (.ghost (.kill [9]) .skip)
  (.ghost (.kill [0, 5, 9]) (.exit 0))))
  (.seq (.block 1 (.post (.reg [⟨(some 12), .op (.mv (.tmp 0)), none⟩,
    ⟨(some 13), .op (.mv (.tmp 5)), none⟩,
    ⟨(some 14), .op (.iaddrS (.tmp 12) (.tmp 13) 1), none⟩,
    ⟨(some 15), .op (.load 1 false (.tmp 14)), none⟩,
    ⟨(some 16), .op (.mv (.tmp 1)), none⟩,
    ⟨(some 17), .call (.func i_laws_markInt64S) [(.tmp 15), (.tmp 16)], none⟩,
    ⟨(some 1), .op (.mv (.tmp 17)), none⟩]) (.kill [12, 13, 14, 15, 16, 17])))
  (.post (.reg [⟨(some 10), .op (.mv (.tmp 5)), none⟩,
    ⟨(some 11), .op (.bin .add (.tmp 10) (.const (Value.int .i64 1))), none⟩,
    ⟨(some 5), .op (.mv (.tmp 11)), none⟩]) (.kill [10, 11]))))
def lo_laws_markInt64SS_0 : AC := (.loop lb_laws_markInt64SS_0)
def ac_laws_markInt64SS : AC := (.seq (.post (.reg [⟨(some 4), .op (.mv (.const (Value.int .i64 0))), none⟩]) (.kill [4]))
  (.seq (.seq (.reg [⟨(some 5), .op (.mv (.const (Value.int .i64 0))), none⟩])
  (.block 0 lo_laws_markInt64SS_0))
  (.ghost (.kill [0, 5]) (.seq (.post (.reg [⟨(some 18), .op (.mv (.tmp 1)), none⟩,
    ⟨(some 4), .op (.mv (.tmp 18)), none⟩]) (.kill [1, 18]))
  .ret))))
theorem cf_laws_markInt64SS : chkFn Try.prog i_laws_markInt64SS ac_laws_markInt64SS [.tmp 4] 19 = true := by decide +kernel
def fa_laws_markInt64SS : FnA := ⟨ac_laws_markInt64SS, [.tmp 4], 19, true, false, [], .any, none⟩

/-- The checked code of laws markBoolS. -/
def lb_laws_markBoolS_0 : AC := (.seq (.seq (.post (.reg [⟨(some 6), .op (.mv (.tmp 5)), none⟩,
    ⟨(some 7), .op (.mv (.tmp 0)), none⟩,
    ⟨(some 8), .op (.len false (.tmp 7)), none⟩,
    ⟨(some 9), .op (.bin .lss (.tmp 6) (.tmp 8)), none⟩]) (.kill [6, 7, 8]))
  (.cond (.tmp 9) (.ghost (.kill [9]) .skip)
  (.ghost (.kill [0, 5, 9]) (.exit 0))))
  (.seq (.block 1 (.seq (.post (.reg [⟨(some 12), .op (.mv (.tmp 0)), none⟩,
    ⟨(some 13), .op (.mv (.tmp 5)), none⟩,
    ⟨(some 14), .op (.mv (.tmp 1)), none⟩,
    ⟨(some 15), .op (.bin .rem (.tmp 14) (.const (Value.int .i64 3))), none⟩,
    ⟨(some 16), .op (.bin .eql (.tmp 15) (.const (Value.int .i64 0))), none⟩,
    ⟨(some 17), .op (.iaddrS (.tmp 12) (.tmp 13) 1), none⟩,
    ⟨none, .op (.store 1 (.tmp 17) (.tmp 16)), none⟩]) (.kill [12, 13, 14, 15, 16, 17]))
  (.post (.reg [⟨(some 18), .op (.mv (.tmp 1)), none⟩,
    ⟨(some 19), .op (.bin .add (.tmp 18) (.const (Value.int .i64 1))), none⟩,
    ⟨(some 1), .op (.mv (.tmp 19)), none⟩]) (.kill [18, 19]))))
  (.post (.reg [⟨(some 10), .op (.mv (.tmp 5)), none⟩,
    ⟨(some 11), .op (.bin .add (.tmp 10) (.const (Value.int .i64 1))), none⟩,
    ⟨(some 5), .op (.mv (.tmp 11)), none⟩]) (.kill [10, 11]))))
def lo_laws_markBoolS_0 : AC := (.loop lb_laws_markBoolS_0)
def ac_laws_markBoolS : AC := (.seq (.post (.reg [⟨(some 4), .op (.mv (.const (Value.int .i64 0))), none⟩]) (.kill [4]))
  (.seq (.seq (.reg [⟨(some 5), .op (.mv (.const (Value.int .i64 0))), none⟩])
  (.block 0 lo_laws_markBoolS_0))
  (.ghost (.kill [0, 5]) (.seq (.post (.reg [⟨(some 20), .op (.mv (.tmp 1)), none⟩,
    ⟨(some 4), .op (.mv (.tmp 20)), none⟩]) (.kill [1, 20]))
  .ret))))
theorem cf_laws_markBoolS : chkFn Try.prog i_laws_markBoolS ac_laws_markBoolS [.tmp 4] 21 = true := by decide +kernel
def fa_laws_markBoolS : FnA := ⟨ac_laws_markBoolS, [.tmp 4], 21, true, false, [], .any, none⟩

/-- The checked code of laws markPushS. -/
def lb_laws_markPushS_0 : AC := (.seq (.seq (.post (.reg [⟨(some 6), .op (.mv (.tmp 5)), none⟩,
    ⟨(some 7), .op (.mv (.tmp 0)), none⟩,
    ⟨(some 8), .op (.len false (.tmp 7)), none⟩,
    ⟨(some 9), .op (.bin .lss (.tmp 6) (.tmp 8)), none⟩]) (.kill [6, 7, 8]))
  (.cond (.tmp 9) (.ghost (.kill [9]) .skip)
  (.ghost (.kill [0, 5, 9]) (.exit 0))))
  (.seq (.block 1 (.seq (.post (.reg [⟨(some 12), .op (.mv (.tmp 0)), none⟩,
    ⟨(some 13), .op (.mv (.tmp 5)), none⟩,
    ⟨(some 14), .op (.mv (.tmp 1)), none⟩,
    ⟨(some 15), .op (.iaddrS (.tmp 12) (.tmp 13) 2), none⟩,
    ⟨(some 16), .op (.faddr (.tmp 15) 0), none⟩,
    ⟨none, .op (.store 1 (.tmp 16) (.tmp 14)), none⟩]) (.kill [12, 13, 14, 15, 16]))
  (.seq (.post (.reg [⟨(some 17), .op (.mv (.tmp 1)), none⟩,
    ⟨(some 18), .op (.bin .add (.tmp 17) (.const (Value.int .i64 1))), none⟩,
    ⟨(some 1), .op (.mv (.tmp 18)), none⟩]) (.kill [17, 18]))
  (.seq (.post (.reg [⟨(some 19), .op (.mv (.tmp 0)), none⟩,
    ⟨(some 20), .op (.mv (.tmp 5)), none⟩,
    ⟨(some 21), .op (.mv (.tmp 1)), none⟩,
    ⟨(some 22), .op (.iaddrS (.tmp 19) (.tmp 20) 2), none⟩,
    ⟨(some 23), .op (.faddr (.tmp 22) 1), none⟩,
    ⟨none, .op (.store 1 (.tmp 23) (.tmp 21)), none⟩]) (.kill [19, 20, 21, 22, 23]))
  (.post (.reg [⟨(some 24), .op (.mv (.tmp 1)), none⟩,
    ⟨(some 25), .op (.bin .add (.tmp 24) (.const (Value.int .i64 1))), none⟩,
    ⟨(some 1), .op (.mv (.tmp 25)), none⟩]) (.kill [24, 25]))))))
  (.post (.reg [⟨(some 10), .op (.mv (.tmp 5)), none⟩,
    ⟨(some 11), .op (.bin .add (.tmp 10) (.const (Value.int .i64 1))), none⟩,
    ⟨(some 5), .op (.mv (.tmp 11)), none⟩]) (.kill [10, 11]))))
def lo_laws_markPushS_0 : AC := (.loop lb_laws_markPushS_0)
def ac_laws_markPushS : AC := (.seq (.post (.reg [⟨(some 4), .op (.mv (.const (Value.int .i64 0))), none⟩]) (.kill [4]))
  (.seq (.seq (.reg [⟨(some 5), .op (.mv (.const (Value.int .i64 0))), none⟩])
  (.block 0 lo_laws_markPushS_0))
  (.ghost (.kill [0, 5]) (.seq (.post (.reg [⟨(some 26), .op (.mv (.tmp 1)), none⟩,
    ⟨(some 4), .op (.mv (.tmp 26)), none⟩]) (.kill [1, 26]))
  .ret))))
theorem cf_laws_markPushS : chkFn Try.prog i_laws_markPushS ac_laws_markPushS [.tmp 4] 27 = true := by decide +kernel
def fa_laws_markPushS : FnA := ⟨ac_laws_markPushS, [.tmp 4], 27, true, false, [], .any, none⟩

/-- The checked code of laws markPushSS. -/
def lb_laws_markPushSS_0 : AC := (.seq (.seq (.post (.reg [⟨(some 6), .op (.mv (.tmp 5)), none⟩,
    ⟨(some 7), .op (.mv (.tmp 0)), none⟩,
    ⟨(some 8), .op (.len false (.tmp 7)), none⟩,
    ⟨(some 9), .op (.bin .lss (.tmp 6) (.tmp 8)), none⟩]) (.kill [6, 7, 8]))
  (.cond (.tmp 9) (.ghost (.kill [9]) .skip)
  (.ghost (.kill [0, 5, 9]) (.exit 0))))
  (.seq (.block 1 (.post (.reg [⟨(some 12), .op (.mv (.tmp 0)), none⟩,
    ⟨(some 13), .op (.mv (.tmp 5)), none⟩,
    ⟨(some 14), .op (.iaddrS (.tmp 12) (.tmp 13) 1), none⟩,
    ⟨(some 15), .op (.load 1 false (.tmp 14)), none⟩,
    ⟨(some 16), .op (.mv (.tmp 1)), none⟩,
    ⟨(some 17), .call (.func i_laws_markPushS) [(.tmp 15), (.tmp 16)], none⟩,
    ⟨(some 1), .op (.mv (.tmp 17)), none⟩]) (.kill [12, 13, 14, 15, 16, 17])))
  (.post (.reg [⟨(some 10), .op (.mv (.tmp 5)), none⟩,
    ⟨(some 11), .op (.bin .add (.tmp 10) (.const (Value.int .i64 1))), none⟩,
    ⟨(some 5), .op (.mv (.tmp 11)), none⟩]) (.kill [10, 11]))))
def lo_laws_markPushSS_0 : AC := (.loop lb_laws_markPushSS_0)
def ac_laws_markPushSS : AC := (.seq (.post (.reg [⟨(some 4), .op (.mv (.const (Value.int .i64 0))), none⟩]) (.kill [4]))
  (.seq (.seq (.reg [⟨(some 5), .op (.mv (.const (Value.int .i64 0))), none⟩])
  (.block 0 lo_laws_markPushSS_0))
  (.ghost (.kill [0, 5]) (.seq (.post (.reg [⟨(some 18), .op (.mv (.tmp 1)), none⟩,
    ⟨(some 4), .op (.mv (.tmp 18)), none⟩]) (.kill [1, 18]))
  .ret))))
theorem cf_laws_markPushSS : chkFn Try.prog i_laws_markPushSS ac_laws_markPushSS [.tmp 4] 19 = true := by decide +kernel
def fa_laws_markPushSS : FnA := ⟨ac_laws_markPushSS, [.tmp 4], 19, true, false, [], .any, none⟩

/-- The checked code of laws markInt64SSS. -/
def lb_laws_markInt64SSS_0 : AC := (.seq (.seq (.post (.reg [⟨(some 6), .op (.mv (.tmp 5)), none⟩,
    ⟨(some 7), .op (.mv (.tmp 0)), none⟩,
    ⟨(some 8), .op (.len false (.tmp 7)), none⟩,
    ⟨(some 9), .op (.bin .lss (.tmp 6) (.tmp 8)), none⟩]) (.kill [6, 7, 8]))
  (.cond (.tmp 9) (.ghost (.kill [9]) .skip)
  (.ghost (.kill [0, 5, 9]) (.exit 0))))
  (.seq (.block 1 (.post (.reg [⟨(some 12), .op (.mv (.tmp 0)), none⟩,
    ⟨(some 13), .op (.mv (.tmp 5)), none⟩,
    ⟨(some 14), .op (.iaddrS (.tmp 12) (.tmp 13) 1), none⟩,
    ⟨(some 15), .op (.load 1 false (.tmp 14)), none⟩,
    ⟨(some 16), .op (.mv (.tmp 1)), none⟩,
    ⟨(some 17), .call (.func i_laws_markInt64SS) [(.tmp 15), (.tmp 16)], none⟩,
    ⟨(some 1), .op (.mv (.tmp 17)), none⟩]) (.kill [12, 13, 14, 15, 16, 17])))
  (.post (.reg [⟨(some 10), .op (.mv (.tmp 5)), none⟩,
    ⟨(some 11), .op (.bin .add (.tmp 10) (.const (Value.int .i64 1))), none⟩,
    ⟨(some 5), .op (.mv (.tmp 11)), none⟩]) (.kill [10, 11]))))
def lo_laws_markInt64SSS_0 : AC := (.loop lb_laws_markInt64SSS_0)
def ac_laws_markInt64SSS : AC := (.seq (.post (.reg [⟨(some 4), .op (.mv (.const (Value.int .i64 0))), none⟩]) (.kill [4]))
  (.seq (.seq (.reg [⟨(some 5), .op (.mv (.const (Value.int .i64 0))), none⟩])
  (.block 0 lo_laws_markInt64SSS_0))
  (.ghost (.kill [0, 5]) (.seq (.post (.reg [⟨(some 18), .op (.mv (.tmp 1)), none⟩,
    ⟨(some 4), .op (.mv (.tmp 18)), none⟩]) (.kill [1, 18]))
  .ret))))
theorem cf_laws_markInt64SSS : chkFn Try.prog i_laws_markInt64SSS ac_laws_markInt64SSS [.tmp 4] 19 = true := by decide +kernel
def fa_laws_markInt64SSS : FnA := ⟨ac_laws_markInt64SSS, [.tmp 4], 19, true, false, [], .any, none⟩

/-- The checked code of laws markChecker. -/
def ac_laws_markChecker : AC := (.seq (.post (.reg [⟨(some 2), .op (.box false (.tmp 0)), none⟩,
    ⟨(some 4), .op (.mv (.const (Value.int .i64 0))), none⟩]) (.kill [0, 4]))
  (.seq (.post (.reg [⟨(some 5), .op (.faddr (.tmp 2) 2), none⟩,
    ⟨(some 6), .op (.load 1 false (.tmp 5)), none⟩,
    ⟨(some 7), .op (.mv (.tmp 1)), none⟩,
    ⟨(some 8), .call (.func i_laws_markBoolS) [(.tmp 6), (.tmp 7)], none⟩,
    ⟨(some 1), .op (.mv (.tmp 8)), none⟩]) (.kill [5, 6, 7, 8]))
  (.seq (.post (.reg [⟨(some 9), .op (.faddr (.tmp 2) 3), none⟩,
    ⟨(some 10), .op (.load 1 false (.tmp 9)), none⟩,
    ⟨(some 11), .op (.mv (.tmp 1)), none⟩,
    ⟨(some 12), .call (.func i_laws_markPushSS) [(.tmp 10), (.tmp 11)], none⟩,
    ⟨(some 1), .op (.mv (.tmp 12)), none⟩]) (.kill [9, 10, 11, 12]))
  (.seq (.post (.reg [⟨(some 13), .op (.faddr (.tmp 2) 4), none⟩,
    ⟨(some 14), .op (.load 1 false (.tmp 13)), none⟩,
    ⟨(some 15), .op (.mv (.tmp 1)), none⟩,
    ⟨(some 16), .call (.func i_laws_markInt64SSS) [(.tmp 14), (.tmp 15)], none⟩,
    ⟨(some 1), .op (.mv (.tmp 16)), none⟩]) (.kill [13, 14, 15, 16]))
  (.seq (.post (.reg [⟨(some 17), .op (.faddr (.tmp 2) 5), none⟩,
    ⟨(some 18), .op (.load 1 false (.tmp 17)), none⟩,
    ⟨(some 19), .op (.mv (.tmp 1)), none⟩,
    ⟨(some 20), .call (.func i_laws_markInt64SS) [(.tmp 18), (.tmp 19)], none⟩,
    ⟨(some 1), .op (.mv (.tmp 20)), none⟩]) (.kill [2, 17, 18, 19, 20]))
  (.seq (.post (.reg [⟨(some 21), .op (.mv (.tmp 1)), none⟩,
    ⟨(some 4), .op (.mv (.tmp 21)), none⟩]) (.kill [1, 21]))
  .ret))))))
theorem cf_laws_markChecker : chkFn Try.prog i_laws_markChecker ac_laws_markChecker [.tmp 4] 22 = true := by decide +kernel
def fa_laws_markChecker : FnA := ⟨ac_laws_markChecker, [.tmp 4], 22, true, false, [], .any, none⟩

/-- The checked code of laws szBoolS. -/
def ac_laws_szBoolS : AC := (.seq (.post (.reg [⟨(some 4), .op (.mv (.const (Value.int .i64 0))), none⟩]) (.kill [4]))
  (.seq (.post (.reg [⟨(some 5), .op (.mv (.tmp 1)), none⟩,
    ⟨(some 6), .op (.mv (.tmp 0)), none⟩,
    ⟨(some 7), .op (.len false (.tmp 6)), none⟩,
    ⟨(some 8), .op (.bin .sub (.tmp 5) (.tmp 7)), none⟩,
    ⟨(some 1), .op (.mv (.tmp 8)), none⟩]) (.kill [0, 5, 6, 7, 8]))
  (.seq (.seq (.post (.reg [⟨(some 9), .op (.mv (.tmp 1)), none⟩,
    ⟨(some 10), .op (.bin .lss (.tmp 9) (.const (Value.int .i64 0))), none⟩]) (.kill [9]))
  (.cond (.tmp 10) (.ghost (.kill [1, 10]) (.seq (.reg [⟨(some 4), .op (.mv (.const (Value.int .i64 (-1)))), none⟩])
  .ret))
  (.ghost (.kill [10]) .skip)))
  (.seq (.post (.reg [⟨(some 11), .op (.mv (.tmp 1)), none⟩,
    ⟨(some 4), .op (.mv (.tmp 11)), none⟩]) (.kill [1, 11]))
  .ret))))
theorem cf_laws_szBoolS : chkFn Try.prog i_laws_szBoolS ac_laws_szBoolS [.tmp 4] 12 = true := by decide +kernel
def fa_laws_szBoolS : FnA := ⟨ac_laws_szBoolS, [.tmp 4], 12, false, true, [], .any, none⟩

/-- The checked code of laws szInt64S. -/
def ac_laws_szInt64S : AC := (.seq (.post (.reg [⟨(some 4), .op (.mv (.const (Value.int .i64 0))), none⟩]) (.kill [4]))
  (.seq (.post (.reg [⟨(some 5), .op (.mv (.tmp 1)), none⟩,
    ⟨(some 6), .op (.mv (.tmp 0)), none⟩,
    ⟨(some 7), .op (.len false (.tmp 6)), none⟩,
    ⟨(some 8), .op (.bin .sub (.tmp 5) (.tmp 7)), none⟩,
    ⟨(some 1), .op (.mv (.tmp 8)), none⟩]) (.kill [0, 5, 6, 7, 8]))
  (.seq (.seq (.post (.reg [⟨(some 9), .op (.mv (.tmp 1)), none⟩,
    ⟨(some 10), .op (.bin .lss (.tmp 9) (.const (Value.int .i64 0))), none⟩]) (.kill [9]))
  (.cond (.tmp 10) (.ghost (.kill [1, 10]) (.seq (.reg [⟨(some 4), .op (.mv (.const (Value.int .i64 (-1)))), none⟩])
  .ret))
  (.ghost (.kill [10]) .skip)))
  (.seq (.post (.reg [⟨(some 11), .op (.mv (.tmp 1)), none⟩,
    ⟨(some 4), .op (.mv (.tmp 11)), none⟩]) (.kill [1, 11]))
  .ret))))
theorem cf_laws_szInt64S : chkFn Try.prog i_laws_szInt64S ac_laws_szInt64S [.tmp 4] 12 = true := by decide +kernel
def fa_laws_szInt64S : FnA := ⟨ac_laws_szInt64S, [.tmp 4], 12, false, true, [], .any, none⟩

/-- The checked code of laws szInt64SS. -/
def lb_laws_szInt64SS_0 : AC := (.seq (.seq (.post (.reg [⟨(some 12), .op (.mv (.tmp 5)), none⟩,
    ⟨(some 13), .op (.mv (.tmp 0)), none⟩,
    ⟨(some 14), .op (.len false (.tmp 13)), none⟩,
    ⟨(some 15), .op (.bin .lss (.tmp 12) (.tmp 14)), none⟩]) (.kill [12, 13, 14]))
  (.cond (.tmp 15) (.ghost (.kill [15]) .skip)
  (.ghost (.kill [0, 5, 15]) (.exit 0))))
  (.seq (.block 1 (.seq (.post (.reg [⟨(some 18), .op (.mv (.tmp 0)), none⟩,
    ⟨(some 19), .op (.mv (.tmp 5)), none⟩,
    ⟨(some 20), .op (.iaddrS (.tmp 18) (.tmp 19) 1), none⟩,
    ⟨(some 21), .op (.load 1 false (.tmp 20)), none⟩,
    ⟨(some 22), .op (.mv (.tmp 1)), none⟩,
    ⟨(some 23), .call (.func i_laws_szInt64S) [(.tmp 21), (.tmp 22)], none⟩,
    ⟨(some 1), .op (.mv (.tmp 23)), none⟩]) (.kill [18, 19, 20, 21, 22, 23]))
  (.seq (.post (.reg [⟨(some 24), .op (.mv (.tmp 1)), none⟩,
    ⟨(some 25), .op (.bin .lss (.tmp 24) (.const (Value.int .i64 0))), none⟩]) (.kill [24]))
  (.cond (.tmp 25) (.ghost (.kill [0, 1, 5, 25]) (.seq (.reg [⟨(some 4), .op (.mv (.const (Value.int .i64 (-1)))), none⟩])
  .ret))
  (.ghost (.kill [25]) .skip)))))
  (.post (.reg [⟨(some 16), .op (.mv (.tmp 5)), none⟩,
    ⟨(some 17), .op (.bin .add (.tmp 16) (.const (Value.int .i64 1))), none⟩,
    ⟨(some 5), .op (.mv (.tmp 17)), none⟩]) (.kill [16, 17]))))
def lo_laws_szInt64SS_0 : AC := (.loop lb_laws_szInt64SS_0)
def ac_laws_szInt64SS : AC := (.seq (.post (.reg [⟨(some 4), .op (.mv (.const (Value.int .i64 0))), none⟩]) (.kill [4]))
  (.seq (.post (.reg [⟨(some 6), .op (.mv (.tmp 1)), none⟩,
    ⟨(some 7), .op (.mv (.tmp 0)), none⟩,
    ⟨(some 8), .op (.len false (.tmp 7)), none⟩,
    ⟨(some 9), .op (.bin .sub (.tmp 6) (.tmp 8)), none⟩,
    ⟨(some 1), .op (.mv (.tmp 9)), none⟩]) (.kill [6, 7, 8, 9]))
  (.seq (.seq (.post (.reg [⟨(some 10), .op (.mv (.tmp 1)), none⟩,
    ⟨(some 11), .op (.bin .lss (.tmp 10) (.const (Value.int .i64 0))), none⟩]) (.kill [10]))
  (.cond (.tmp 11) (.ghost (.kill [0, 1, 11]) (.seq (.reg [⟨(some 4), .op (.mv (.const (Value.int .i64 (-1)))), none⟩])
  .ret))
  (.ghost (.kill [11]) .skip)))
  (.seq (.seq (.reg [⟨(some 5), .op (.mv (.const (Value.int .i64 0))), none⟩])
  (.block 0 lo_laws_szInt64SS_0))
  (.ghost (.kill [0, 5]) (.seq (.post (.reg [⟨(some 26), .op (.mv (.tmp 1)), none⟩,
    ⟨(some 4), .op (.mv (.tmp 26)), none⟩]) (.kill [1, 26]))
  .ret))))))
theorem cf_laws_szInt64SS : chkFn Try.prog i_laws_szInt64SS ac_laws_szInt64SS [.tmp 4] 27 = true := by decide +kernel
def fa_laws_szInt64SS : FnA := ⟨ac_laws_szInt64SS, [.tmp 4], 27, false, true, [], .any, none⟩

/-- The checked code of laws szAlgebra. -/
def ac_laws_szAlgebra : AC := (.seq (.post (.reg [⟨(some 2), .op (.box true (.tmp 0)), none⟩,
    ⟨(some 4), .op (.mv (.const (Value.int .i64 0))), none⟩]) (.kill [0, 4]))
  (.seq (.post (.reg [⟨(some 5), .op (.faddr (.tmp 2) 0), none⟩,
    ⟨(some 6), .op (.load 1 false (.tmp 5)), none⟩,
    ⟨(some 7), .op (.mv (.tmp 1)), none⟩,
    ⟨(some 8), .call (.func i_laws_szInt64SS) [(.tmp 6), (.tmp 7)], none⟩,
    ⟨(some 1), .op (.mv (.tmp 8)), none⟩]) (.kill [5, 6, 7, 8]))
  (.seq (.seq (.post (.reg [⟨(some 9), .op (.mv (.tmp 1)), none⟩,
    ⟨(some 10), .op (.bin .lss (.tmp 9) (.const (Value.int .i64 0))), none⟩]) (.kill [9]))
  (.cond (.tmp 10) (.ghost (.kill [1, 2, 10]) (.seq (.reg [⟨(some 4), .op (.mv (.const (Value.int .i64 (-1)))), none⟩])
  .ret))
  (.ghost (.kill [10]) .skip)))
  (.seq (.post (.reg [⟨(some 11), .op (.faddr (.tmp 2) 1), none⟩,
    ⟨(some 12), .op (.load 1 false (.tmp 11)), none⟩,
    ⟨(some 13), .op (.mv (.tmp 1)), none⟩,
    ⟨(some 14), .call (.func i_laws_szInt64SS) [(.tmp 12), (.tmp 13)], none⟩,
    ⟨(some 1), .op (.mv (.tmp 14)), none⟩]) (.kill [11, 12, 13, 14]))
  (.seq (.seq (.post (.reg [⟨(some 15), .op (.mv (.tmp 1)), none⟩,
    ⟨(some 16), .op (.bin .lss (.tmp 15) (.const (Value.int .i64 0))), none⟩]) (.kill [15]))
  (.cond (.tmp 16) (.ghost (.kill [1, 2, 16]) (.seq (.reg [⟨(some 4), .op (.mv (.const (Value.int .i64 (-1)))), none⟩])
  .ret))
  (.ghost (.kill [16]) .skip)))
  (.seq (.post (.reg [⟨(some 17), .op (.faddr (.tmp 2) 2), none⟩,
    ⟨(some 18), .op (.load 1 false (.tmp 17)), none⟩,
    ⟨(some 19), .op (.mv (.tmp 1)), none⟩,
    ⟨(some 20), .call (.func i_laws_szInt64S) [(.tmp 18), (.tmp 19)], none⟩,
    ⟨(some 1), .op (.mv (.tmp 20)), none⟩]) (.kill [17, 18, 19, 20]))
  (.seq (.seq (.post (.reg [⟨(some 21), .op (.mv (.tmp 1)), none⟩,
    ⟨(some 22), .op (.bin .lss (.tmp 21) (.const (Value.int .i64 0))), none⟩]) (.kill [21]))
  (.cond (.tmp 22) (.ghost (.kill [1, 2, 22]) (.seq (.reg [⟨(some 4), .op (.mv (.const (Value.int .i64 (-1)))), none⟩])
  .ret))
  (.ghost (.kill [22]) .skip)))
  (.seq (.post (.reg [⟨(some 23), .op (.faddr (.tmp 2) 3), none⟩,
    ⟨(some 24), .op (.load 1 false (.tmp 23)), none⟩,
    ⟨(some 25), .op (.mv (.tmp 1)), none⟩,
    ⟨(some 26), .call (.func i_laws_szBoolS) [(.tmp 24), (.tmp 25)], none⟩,
    ⟨(some 1), .op (.mv (.tmp 26)), none⟩]) (.kill [2, 23, 24, 25, 26]))
  (.seq (.seq (.post (.reg [⟨(some 27), .op (.mv (.tmp 1)), none⟩,
    ⟨(some 28), .op (.bin .lss (.tmp 27) (.const (Value.int .i64 0))), none⟩]) (.kill [27]))
  (.cond (.tmp 28) (.ghost (.kill [1, 28]) (.seq (.reg [⟨(some 4), .op (.mv (.const (Value.int .i64 (-1)))), none⟩])
  .ret))
  (.ghost (.kill [28]) .skip)))
  (.seq (.post (.reg [⟨(some 29), .op (.mv (.tmp 1)), none⟩,
    ⟨(some 4), .op (.mv (.tmp 29)), none⟩]) (.kill [1, 29]))
  .ret))))))))))
theorem cf_laws_szAlgebra : chkFn Try.prog i_laws_szAlgebra ac_laws_szAlgebra [.tmp 4] 30 = true := by decide +kernel
def fa_laws_szAlgebra : FnA := ⟨ac_laws_szAlgebra, [.tmp 4], 30, false, true, [], .any, none⟩

/-- The checked code of spec l00In. -/
def ac_spec_l00In : AC := (.seq (.post (.reg [⟨(some 6), .op (.mv (.const (Value.bool false))), none⟩]) (.kill [6]))
  (.seq (.post (.reg [⟨(some 7), .op (.mv (.tmp 0)), none⟩,
    ⟨(some 8), .op (.mv (.tmp 1)), none⟩,
    ⟨(some 9), .op (.bin .geq (.tmp 7) (.tmp 8)), none⟩,
    ⟨(some 10), .op (.mv (.tmp 9)), none⟩,
    ⟨(some 11), .op (.mv (.tmp 0)), some (10, true)⟩,
    ⟨(some 12), .op (.mv (.tmp 2)), some (10, true)⟩,
    ⟨(some 13), .op (.bin .leq (.tmp 11) (.tmp 12)), some (10, true)⟩,
    ⟨(some 14), .op (.pick (.tmp 10) (.tmp 13) (.const (Value.bool false))), none⟩,
    ⟨(some 6), .op (.mv (.tmp 14)), none⟩]) (.kill [0, 1, 2, 7, 8, 9, 10, 11, 12, 13, 14]))
  .ret))
theorem cf_spec_l00In : chkFn Try.prog i_spec_l00In ac_spec_l00In [.tmp 6] 15 = true := by decide +kernel
def fa_spec_l00In : FnA := ⟨ac_spec_l00In, [.tmp 6], 15, false, true, [], .any, none⟩

/-- The checked code of spec l02List. -/
def lb_spec_l02List_0 : AC := (.seq (.seq (.post (.reg [⟨(some 12), .op (.mv (.tmp 7)), none⟩,
    ⟨(some 13), .op (.mv (.tmp 0)), none⟩,
    ⟨(some 14), .op (.len false (.tmp 13)), none⟩,
    ⟨(some 15), .op (.bin .lss (.tmp 12) (.tmp 14)), none⟩]) (.kill [12, 13, 14]))
  (.cond (.tmp 15) (.ghost (.kill [15]) .skip)
  (.ghost (.kill [0, 2, 7, 15]) (.exit 0))))
  (.seq (.block 1 (.seq (.post (.reg [⟨(some 18), .op (.mv (.tmp 0)), none⟩,
    ⟨(some 19), .op (.mv (.tmp 7)), none⟩,
    ⟨(some 20), .op (.iaddrS (.tmp 18) (.tmp 19) 1), none⟩,
    ⟨(some 21), .op (.load 1 false (.tmp 20)), none⟩,
    ⟨(some 22), .op (.mv (.tmp 2)), none⟩,
    ⟨(some 23), .op (.bin .sub (.tmp 22) (.const (Value.int .i64 1))), none⟩,
    ⟨(some 24), .call (.func i_spec_l00In) [(.tmp 21), (.const (Value.int .i64 0)), (.tmp 23)], none⟩,
    ⟨(some 25), .op (.un .not (.tmp 24)), none⟩]) (.kill [18, 19, 20, 21, 22, 23, 24]))
  (.cond (.tmp 25) (.ghost (.kill [0, 2, 7, 25]) (.seq (.reg [⟨(some 6), .op (.mv (.const (Value.bool false))), none⟩])
  .ret))
  (.ghost (.kill [25]) .skip))))
  (.post (.reg [⟨(some 16), .op (.mv (.tmp 7)), none⟩,
    ⟨(some 17), .op (.bin .add (.tmp 16) (.const (Value.int .i64 1))), none⟩,
    ⟨(some 7), .op (.mv (.tmp 17)), none⟩]) (.kill [16, 17]))))
def lo_spec_l02List_0 : AC := (.loop lb_spec_l02List_0)
def ac_spec_l02List : AC := (.seq (.post (.reg [⟨(some 6), .op (.mv (.const (Value.bool false))), none⟩]) (.kill [6]))
  (.seq (.seq (.post (.reg [⟨(some 8), .op (.mv (.tmp 0)), none⟩,
    ⟨(some 9), .op (.len false (.tmp 8)), none⟩,
    ⟨(some 10), .op (.mv (.tmp 1)), none⟩,
    ⟨(some 11), .op (.bin .neq (.tmp 9) (.tmp 10)), none⟩]) (.kill [1, 8, 9, 10]))
  (.cond (.tmp 11) (.ghost (.kill [0, 2, 11]) (.seq (.reg [⟨(some 6), .op (.mv (.const (Value.bool false))), none⟩])
  .ret))
  (.ghost (.kill [11]) .skip)))
  (.seq (.seq (.reg [⟨(some 7), .op (.mv (.const (Value.int .i64 0))), none⟩])
  (.block 0 lo_spec_l02List_0))
  (.ghost (.kill [0, 2, 7]) (.seq (.reg [⟨(some 6), .op (.mv (.const (Value.bool true))), none⟩])
  .ret)))))
theorem cf_spec_l02List : chkFn Try.prog i_spec_l02List ac_spec_l02List [.tmp 6] 26 = true := by decide +kernel
def fa_spec_l02List : FnA := ⟨ac_spec_l02List, [.tmp 6], 26, false, true, [], .any, none⟩

/-- The checked code of spec l04Ok. -/
def lb_spec_l04Ok_0 : AC := (.seq (.seq (.post (.reg [⟨(some 43), .op (.mv (.tmp 4)), none⟩,
    ⟨(some 44), .op (.mv (.tmp 3)), none⟩,
    ⟨(some 45), .op (.bin .lss (.tmp 43) (.tmp 44)), none⟩]) (.kill [43, 44]))
  (.cond (.tmp 45) (.ghost (.kill [45]) .skip)
  (.ghost (.kill [4, 45]) (.exit 0))))
  (.seq (.block 1 (.seq (.post (.reg [⟨(some 48), .op (.mv (.tmp 0)), none⟩,
    ⟨(some 49), .op (.nilc (.tmp 48)), none⟩,
    ⟨(some 50), .op (.faddr (.tmp 49) 0), none⟩,
    ⟨(some 51), .op (.load 1 false (.tmp 50)), none⟩,
    ⟨(some 52), .op (.mv (.tmp 4)), none⟩,
    ⟨(some 53), .op (.iaddrS (.tmp 51) (.tmp 52) 1), none⟩,
    ⟨(some 54), .op (.load 1 false (.tmp 53)), none⟩,
    ⟨(some 55), .op (.mv (.tmp 3)), none⟩,
    ⟨(some 56), .op (.mv (.tmp 3)), none⟩,
    ⟨(some 57), .call (.func i_spec_l02List) [(.tmp 54), (.tmp 55), (.tmp 56)], none⟩,
    ⟨(some 58), .op (.un .not (.tmp 57)), none⟩]) (.kill [48, 49, 50, 51, 52, 53, 54, 55, 56, 57]))
  (.cond (.tmp 58) (.ghost (.kill [0, 3, 4, 58]) (.seq (.reg [⟨(some 2), .op (.mv (.const (Value.bool false))), none⟩])
  .ret))
  (.ghost (.kill [58]) .skip))))
  (.post (.reg [⟨(some 46), .op (.mv (.tmp 4)), none⟩,
    ⟨(some 47), .op (.bin .add (.tmp 46) (.const (Value.int .i64 1))), none⟩,
    ⟨(some 4), .op (.mv (.tmp 47)), none⟩]) (.kill [46, 47]))))
def lo_spec_l04Ok_0 : AC := (.loop lb_spec_l04Ok_0)
def lb_spec_l04Ok_1 : AC := (.seq (.seq (.post (.reg [⟨(some 59), .op (.mv (.tmp 5)), none⟩,
    ⟨(some 60), .op (.bin .lss (.tmp 59) (.const (Value.int .i64 4))), none⟩]) (.kill [59]))
  (.cond (.tmp 60) (.ghost (.kill [60]) .skip)
  (.ghost (.kill [5, 60]) (.exit 2))))
  (.seq (.block 3 (.seq (.post (.reg [⟨(some 63), .op (.mv (.tmp 0)), none⟩,
    ⟨(some 64), .op (.nilc (.tmp 63)), none⟩,
    ⟨(some 65), .op (.faddr (.tmp 64) 1), none⟩,
    ⟨(some 66), .op (.load 1 false (.tmp 65)), none⟩,
    ⟨(some 67), .op (.mv (.tmp 5)), none⟩,
    ⟨(some 68), .op (.iaddrS (.tmp 66) (.tmp 67) 1), none⟩,
    ⟨(some 69), .op (.load 1 false (.tmp 68)), none⟩,
    ⟨(some 70), .op (.mv (.tmp 3)), none⟩,
    ⟨(some 71), .op (.mv (.tmp 3)), none⟩,
    ⟨(some 72), .call (.func i_spec_l02List) [(.tmp 69), (.tmp 70), (.tmp 71)], none⟩,
    ⟨(some 73), .op (.un .not (.tmp 72)), none⟩]) (.kill [63, 64, 65, 66, 67, 68, 69, 70, 71, 72]))
  (.cond (.tmp 73) (.ghost (.kill [0, 3, 5, 73]) (.seq (.reg [⟨(some 2), .op (.mv (.const (Value.bool false))), none⟩])
  .ret))
  (.ghost (.kill [73]) .skip))))
  (.post (.reg [⟨(some 61), .op (.mv (.tmp 5)), none⟩,
    ⟨(some 62), .op (.bin .add (.tmp 61) (.const (Value.int .i64 1))), none⟩,
    ⟨(some 5), .op (.mv (.tmp 62)), none⟩]) (.kill [61, 62]))))
def lo_spec_l04Ok_1 : AC := (.loop lb_spec_l04Ok_1)
def lb_spec_l04Ok_2 : AC := (.seq (.seq (.post (.reg [⟨(some 108), .op (.mv (.tmp 8)), none⟩,
    ⟨(some 109), .op (.mv (.tmp 3)), none⟩,
    ⟨(some 110), .op (.bin .lss (.tmp 108) (.tmp 109)), none⟩]) (.kill [108, 109]))
  (.cond (.tmp 110) (.ghost (.kill [110]) .skip)
  (.ghost (.kill [8, 110]) (.exit 8))))
  (.seq (.block 9 (.seq (.post (.draw [⟨0, ⟨(some 113), .op (.mv (.tmp 0)), none⟩, []⟩,
    ⟨1, ⟨(some 114), .op (.nilc (.tmp 113)), none⟩, []⟩,
    ⟨2, ⟨(some 115), .op (.faddr (.tmp 114) 0), none⟩, []⟩,
    ⟨3, ⟨(some 116), .op (.load 1 false (.tmp 115)), none⟩, []⟩,
    ⟨4, ⟨(some 117), .op (.mv (.tmp 0)), none⟩, []⟩,
    ⟨5, ⟨(some 118), .op (.nilc (.tmp 117)), none⟩, []⟩,
    ⟨6, ⟨(some 119), .op (.faddr (.tmp 118) 0), none⟩, []⟩,
    ⟨7, ⟨(some 120), .op (.load 1 false (.tmp 119)), none⟩, []⟩,
    ⟨8, ⟨(some 121), .op (.mv (.tmp 6)), none⟩, []⟩,
    ⟨9, ⟨(some 122), .op (.iaddrS (.tmp 120) (.tmp 121) 1), none⟩, []⟩,
    ⟨10, ⟨(some 123), .op (.load 1 false (.tmp 122)), none⟩, []⟩,
    ⟨11, ⟨(some 124), .op (.mv (.tmp 7)), none⟩, []⟩,
    ⟨12, ⟨(some 125), .op (.iaddrS (.tmp 123) (.tmp 124) 1), none⟩, []⟩,
    ⟨13, ⟨(some 126), .op (.load 1 false (.tmp 125)), none⟩, []⟩,
    ⟨14, ⟨(some 127), .op (.iaddrS (.tmp 116) (.tmp 126) 1), none⟩, []⟩,
    ⟨15, ⟨(some 128), .op (.load 1 false (.tmp 127)), none⟩, []⟩,
    ⟨16, ⟨(some 129), .op (.mv (.tmp 8)), none⟩, []⟩,
    ⟨17, ⟨(some 130), .op (.iaddrS (.tmp 128) (.tmp 129) 1), none⟩, []⟩,
    ⟨18, ⟨(some 131), .op (.load 1 false (.tmp 130)), none⟩, []⟩,
    ⟨19, ⟨(some 132), .op (.mv (.tmp 0)), none⟩, []⟩,
    ⟨20, ⟨(some 133), .op (.nilc (.tmp 132)), none⟩, []⟩,
    ⟨21, ⟨(some 134), .op (.faddr (.tmp 133) 0), none⟩, []⟩,
    ⟨22, ⟨(some 135), .op (.load 1 false (.tmp 134)), none⟩, []⟩,
    ⟨23, ⟨(some 136), .op (.mv (.tmp 6)), none⟩, []⟩,
    ⟨24, ⟨(some 137), .op (.iaddrS (.tmp 135) (.tmp 136) 1), none⟩, []⟩,
    ⟨25, ⟨(some 138), .op (.load 1 false (.tmp 137)), none⟩, []⟩,
    ⟨26, ⟨(some 139), .op (.mv (.tmp 0)), none⟩, []⟩,
    ⟨27, ⟨(some 140), .op (.nilc (.tmp 139)), none⟩, []⟩,
    ⟨28, ⟨(some 141), .op (.faddr (.tmp 140) 0), none⟩, []⟩,
    ⟨29, ⟨(some 142), .op (.load 1 false (.tmp 141)), none⟩, []⟩,
    ⟨30, ⟨(some 143), .op (.mv (.tmp 7)), none⟩, []⟩,
    ⟨31, ⟨(some 144), .op (.iaddrS (.tmp 142) (.tmp 143) 1), none⟩, []⟩,
    ⟨32, ⟨(some 145), .op (.load 1 false (.tmp 144)), none⟩, []⟩,
    ⟨33, ⟨(some 146), .op (.mv (.tmp 8)), none⟩, []⟩,
    ⟨34, ⟨(some 147), .op (.iaddrS (.tmp 145) (.tmp 146) 1), none⟩, []⟩,
    ⟨35, ⟨(some 148), .op (.load 1 false (.tmp 147)), none⟩, []⟩,
    ⟨36, ⟨(some 149), .op (.iaddrS (.tmp 138) (.tmp 148) 1), none⟩, []⟩,
    ⟨37, ⟨(some 150), .op (.load 1 false (.tmp 149)), none⟩, []⟩,
    ⟨38, ⟨(some 151), .op (.bin .neq (.tmp 131) (.tmp 150)), none⟩, []⟩]
    [0, 1, 3, 7, 0, 16, 48, 112, 0, 496, 1008, 0, 4080, 8176, 16383, 32767, 0, 131071, 262143, 0, 524288, 1572864, 3670016, 0, 16252928, 33030144, 0, 67108864, 201326592, 469762048, 0, 2080374784, 4227858432, 0, 17112760320, 34292629504, 68718952448, 137438429184, 274877906943]) (.kill [113, 114, 115, 116, 117, 118, 119, 120, 121, 122, 123, 124, 125, 126, 127, 128, 129, 130, 131, 132, 133, 134, 135, 136, 137, 138, 139, 140, 141, 142, 143, 144, 145, 146, 147, 148, 149, 150]))
  (.cond (.tmp 151) (.ghost (.kill [0, 3, 6, 7, 8, 151]) (.seq (.reg [⟨(some 2), .op (.mv (.const (Value.bool false))), none⟩])
  .ret))
  (.ghost (.kill [151]) .skip))))
  (.post (.reg [⟨(some 111), .op (.mv (.tmp 8)), none⟩,
    ⟨(some 112), .op (.bin .add (.tmp 111) (.const (Value.int .i64 1))), none⟩,
    ⟨(some 8), .op (.mv (.tmp 112)), none⟩]) (.kill [111, 112]))))
def lo_spec_l04Ok_2 : AC := (.loop lb_spec_l04Ok_2)
def lb_spec_l04Ok_3 : AC := (.seq (.seq (.post (.reg [⟨(some 103), .op (.mv (.tmp 7)), none⟩,
    ⟨(some 104), .op (.mv (.tmp 3)), none⟩,
    ⟨(some 105), .op (.bin .lss (.tmp 103) (.tmp 104)), none⟩]) (.kill [103, 104]))
  (.cond (.tmp 105) (.ghost (.kill [105]) .skip)
  (.ghost (.kill [7, 105]) (.exit 6))))
  (.seq (.block 7 (.seq (.reg [⟨(some 8), .op (.mv (.const (Value.int .i64 0))), none⟩])
  (.block 8 lo_spec_l04Ok_2)))
  (.ghost (.kill [8]) (.post (.reg [⟨(some 106), .op (.mv (.tmp 7)), none⟩,
    ⟨(some 107), .op (.bin .add (.tmp 106) (.const (Value.int .i64 1))), none⟩,
    ⟨(some 7), .op (.mv (.tmp 107)), none⟩]) (.kill [106, 107])))))
def lo_spec_l04Ok_3 : AC := (.loop lb_spec_l04Ok_3)
def lb_spec_l04Ok_4 : AC := (.seq (.seq (.post (.reg [⟨(some 74), .op (.mv (.tmp 6)), none⟩,
    ⟨(some 75), .op (.mv (.tmp 3)), none⟩,
    ⟨(some 76), .op (.bin .lss (.tmp 74) (.tmp 75)), none⟩]) (.kill [74, 75]))
  (.cond (.tmp 76) (.ghost (.kill [76]) .skip)
  (.ghost (.kill [0, 3, 6, 76]) (.exit 4))))
  (.seq (.block 5 (.seq (.seq (.post (.reg [⟨(some 79), .op (.mv (.tmp 0)), none⟩,
    ⟨(some 80), .op (.nilc (.tmp 79)), none⟩,
    ⟨(some 81), .op (.faddr (.tmp 80) 0), none⟩,
    ⟨(some 82), .op (.load 1 false (.tmp 81)), none⟩,
    ⟨(some 83), .op (.iaddrS (.tmp 82) (.const (Value.int .i64 0)) 1), none⟩,
    ⟨(some 84), .op (.load 1 false (.tmp 83)), none⟩,
    ⟨(some 85), .op (.mv (.tmp 6)), none⟩,
    ⟨(some 86), .op (.iaddrS (.tmp 84) (.tmp 85) 1), none⟩,
    ⟨(some 87), .op (.load 1 false (.tmp 86)), none⟩,
    ⟨(some 88), .op (.mv (.tmp 6)), none⟩,
    ⟨(some 89), .op (.bin .neq (.tmp 87) (.tmp 88)), none⟩,
    ⟨(some 90), .op (.mv (.tmp 89)), none⟩,
    ⟨(some 91), .op (.mv (.tmp 0)), some (90, false)⟩,
    ⟨(some 92), .op (.nilc (.tmp 91)), some (90, false)⟩,
    ⟨(some 93), .op (.faddr (.tmp 92) 0), some (90, false)⟩,
    ⟨(some 94), .op (.load 1 false (.tmp 93)), some (90, false)⟩,
    ⟨(some 95), .op (.mv (.tmp 6)), some (90, false)⟩,
    ⟨(some 96), .op (.iaddrS (.tmp 94) (.tmp 95) 1), some (90, false)⟩,
    ⟨(some 97), .op (.load 1 false (.tmp 96)), some (90, false)⟩,
    ⟨(some 98), .op (.iaddrS (.tmp 97) (.const (Value.int .i64 0)) 1), some (90, false)⟩,
    ⟨(some 99), .op (.load 1 false (.tmp 98)), some (90, false)⟩,
    ⟨(some 100), .op (.mv (.tmp 6)), some (90, false)⟩,
    ⟨(some 101), .op (.bin .neq (.tmp 99) (.tmp 100)), some (90, false)⟩,
    ⟨(some 102), .op (.pick (.tmp 90) (.const (Value.bool true)) (.tmp 101)), none⟩]) (.kill [79, 80, 81, 82, 83, 84, 85, 86, 87, 88, 89, 90, 91, 92, 93, 94, 95, 96, 97, 98, 99, 100, 101]))
  (.cond (.tmp 102) (.ghost (.kill [0, 3, 6, 102]) (.seq (.reg [⟨(some 2), .op (.mv (.const (Value.bool false))), none⟩])
  .ret))
  (.ghost (.kill [102]) .skip)))
  (.seq (.reg [⟨(some 7), .op (.mv (.const (Value.int .i64 0))), none⟩])
  (.block 6 lo_spec_l04Ok_3))))
  (.ghost (.kill [7]) (.post (.reg [⟨(some 77), .op (.mv (.tmp 6)), none⟩,
    ⟨(some 78), .op (.bin .add (.tmp 77) (.const (Value.int .i64 1))), none⟩,
    ⟨(some 6), .op (.mv (.tmp 78)), none⟩]) (.kill [77, 78])))))
def lo_spec_l04Ok_4 : AC := (.loop lb_spec_l04Ok_4)
def ac_spec_l04Ok : AC := (.seq (.post (.reg [⟨(some 2), .op (.mv (.const (Value.bool false))), none⟩]) (.kill [2]))
  (.seq (.post (.reg [⟨(some 9), .op (.mv (.tmp 0)), none⟩,
    ⟨(some 10), .op (.nilc (.tmp 9)), none⟩,
    ⟨(some 11), .op (.faddr (.tmp 10) 3), none⟩,
    ⟨(some 12), .op (.load 1 false (.tmp 11)), none⟩,
    ⟨(some 13), .op (.len false (.tmp 12)), none⟩,
    ⟨(some 3), .op (.mv (.tmp 13)), none⟩]) (.kill [9, 10, 11, 12, 13]))
  (.seq (.seq (.post (.reg [⟨(some 14), .op (.mv (.tmp 3)), none⟩,
    ⟨(some 15), .call (.func i_spec_l00In) [(.tmp 14), (.const (Value.int .i64 1)), (.const (Value.int .i64 40))], none⟩,
    ⟨(some 16), .op (.un .not (.tmp 15)), none⟩,
    ⟨(some 17), .op (.mv (.tmp 16)), none⟩,
    ⟨(some 18), .op (.mv (.tmp 0)), some (17, false)⟩,
    ⟨(some 19), .op (.nilc (.tmp 18)), some (17, false)⟩,
    ⟨(some 20), .op (.faddr (.tmp 19) 0), some (17, false)⟩,
    ⟨(some 21), .op (.load 1 false (.tmp 20)), some (17, false)⟩,
    ⟨(some 22), .op (.len false (.tmp 21)), some (17, false)⟩,
    ⟨(some 23), .op (.mv (.tmp 3)), some (17, false)⟩,
    ⟨(some 24), .op (.bin .neq (.tmp 22) (.tmp 23)), some (17, false)⟩,
    ⟨(some 25), .op (.pick (.tmp 17) (.const (Value.bool true)) (.tmp 24)), none⟩,
    ⟨(some 26), .op (.mv (.tmp 25)), none⟩,
    ⟨(some 27), .op (.mv (.tmp 0)), some (26, false)⟩,
    ⟨(some 28), .op (.nilc (.tmp 27)), some (26, false)⟩,
    ⟨(some 29), .op (.faddr (.tmp 28) 1), some (26, false)⟩,
    ⟨(some 30), .op (.load 1 false (.tmp 29)), some (26, false)⟩,
    ⟨(some 31), .op (.len false (.tmp 30)), some (26, false)⟩,
    ⟨(some 32), .op (.bin .neq (.tmp 31) (.const (Value.int .i64 4))), some (26, false)⟩,
    ⟨(some 33), .op (.pick (.tmp 26) (.const (Value.bool true)) (.tmp 32)), none⟩,
    ⟨(some 34), .op (.mv (.tmp 33)), none⟩,
    ⟨(some 35), .op (.mv (.tmp 0)), some (34, false)⟩,
    ⟨(some 36), .op (.nilc (.tmp 35)), some (34, false)⟩,
    ⟨(some 37), .op (.faddr (.tmp 36) 2), some (34, false)⟩,
    ⟨(some 38), .op (.load 1 false (.tmp 37)), some (34, false)⟩,
    ⟨(some 39), .op (.mv (.tmp 3)), some (34, false)⟩,
    ⟨(some 40), .call (.func i_spec_l02List) [(.tmp 38), (.const (Value.int .i64 2)), (.tmp 39)], some (34, false)⟩,
    ⟨(some 41), .op (.un .not (.tmp 40)), some (34, false)⟩,
    ⟨(some 42), .op (.pick (.tmp 34) (.const (Value.bool true)) (.tmp 41)), none⟩]) (.kill [14, 15, 16, 17, 18, 19, 20, 21, 22, 23, 24, 25, 26, 27, 28, 29, 30, 31, 32, 33, 34, 35, 36, 37, 38, 39, 40, 41]))
  (.cond (.tmp 42) (.ghost (.kill [0, 3, 42]) (.seq (.reg [⟨(some 2), .op (.mv (.const (Value.bool false))), none⟩])
  .ret))
  (.ghost (.kill [42]) .skip)))
  (.seq (.seq (.reg [⟨(some 4), .op (.mv (.const (Value.int .i64 0))), none⟩])
  (.block 0 lo_spec_l04Ok_0))
  (.ghost (.kill [4]) (.seq (.seq (.reg [⟨(some 5), .op (.mv (.const (Value.int .i64 0))), none⟩])
  (.block 2 lo_spec_l04Ok_1))
  (.ghost (.kill [5]) (.seq (.seq (.reg [⟨(some 6), .op (.mv (.const (Value.int .i64 0))), none⟩])
  (.block 4 lo_spec_l04Ok_4))
  (.ghost (.kill [0, 3, 6]) (.seq (.reg [⟨(some 2), .op (.mv (.const (Value.bool true))), none⟩])
  .ret))))))))))
theorem cf_spec_l04Ok : chkFn Try.prog i_spec_l04Ok ac_spec_l04Ok [.tmp 2] 152 = true := by decide +kernel
def fa_spec_l04Ok : FnA := ⟨ac_spec_l04Ok, [.tmp 2], 152, false, true, [], .any, none⟩

/-- The checked code of spec CheckerOfAlgebra. -/
def lb_spec_CheckerOfAlgebra_0 : AC := (.seq (.seq (.post (.reg [⟨(some 89), .op (.mv (.tmp 12)), none⟩,
    ⟨(some 90), .op (.faddr (.tmp 6) 0), none⟩,
    ⟨(some 91), .op (.load 1 false (.tmp 90)), none⟩,
    ⟨(some 92), .op (.bin .lss (.tmp 89) (.tmp 91)), none⟩]) (.kill [89, 90, 91]))
  (.cond (.tmp 92) (.ghost (.kill [92]) .skip)
  (.ghost (.kill [12, 92]) (.exit 4))))
  (.seq (.block 5 (.seq (.post (.reg [⟨(some 95), .op (.mv (.tmp 12)), none⟩,
    ⟨(some 96), .op (.bin .quo (.tmp 95) (.const (Value.int .i64 2))), none⟩,
    ⟨(some 13), .op (.mv (.tmp 96)), none⟩]) (.kill [95, 96]))
  (.seq (.post (.reg [⟨(some 97), .op (.mv (.tmp 5)), none⟩,
    ⟨(some 14), .op (.mv (.tmp 97)), none⟩]) (.kill [97]))
  (.seq (.seq (.post (.reg [⟨(some 98), .op (.mv (.tmp 7)), none⟩,
    ⟨(some 99), .op (.mv (.tmp 4)), none⟩,
    ⟨(some 100), .op (.bin .geq (.tmp 98) (.tmp 99)), none⟩,
    ⟨(some 101), .op (.mv (.tmp 100)), none⟩,
    ⟨(some 102), .op (.mv (.tmp 7)), some (101, true)⟩,
    ⟨(some 103), .op (.mv (.tmp 5)), some (101, true)⟩,
    ⟨(some 104), .op (.bin .lss (.tmp 102) (.tmp 103)), some (101, true)⟩,
    ⟨(some 105), .op (.pick (.tmp 101) (.tmp 104) (.const (Value.bool false))), none⟩,
    ⟨(some 106), .op (.mv (.tmp 105)), none⟩,
    ⟨(some 107), .op (.mv (.tmp 13)), some (106, true)⟩,
    ⟨(some 108), .op (.mv (.tmp 5)), some (106, true)⟩,
    ⟨(some 109), .op (.bin .lss (.tmp 107) (.tmp 108)), some (106, true)⟩,
    ⟨(some 110), .op (.pick (.tmp 106) (.tmp 109) (.const (Value.bool false))), none⟩]) (.kill [98, 99, 100, 101, 102, 103, 104, 105, 106, 107, 108, 109]))
  (.cond (.tmp 110) (.ghost (.kill [14, 110]) (.post (.draw [⟨0, ⟨(some 111), .op (.faddr (.tmp 1) 0), none⟩, []⟩,
    ⟨1, ⟨(some 112), .op (.load 1 false (.tmp 111)), none⟩, []⟩,
    ⟨2, ⟨(some 113), .op (.mv (.tmp 13)), none⟩, []⟩,
    ⟨3, ⟨(some 114), .op (.mv (.tmp 4)), none⟩, []⟩,
    ⟨4, ⟨(some 115), .op (.bin .rem (.tmp 113) (.tmp 114)), none⟩, []⟩,
    ⟨5, ⟨(some 116), .op (.iaddrS (.tmp 112) (.tmp 115) 1), none⟩, []⟩,
    ⟨6, ⟨(some 117), .op (.load 1 false (.tmp 116)), none⟩, []⟩,
    ⟨7, ⟨(some 118), .op (.faddr (.tmp 1) 1), none⟩, []⟩,
    ⟨8, ⟨(some 119), .op (.load 1 false (.tmp 118)), none⟩, []⟩,
    ⟨9, ⟨(some 120), .op (.mv (.tmp 12)), none⟩, []⟩,
    ⟨10, ⟨(some 121), .op (.bin .rem (.tmp 120) (.const (Value.int .i64 2))), none⟩, []⟩,
    ⟨11, ⟨(some 122), .op (.bin .mul (.const (Value.int .i64 2)) (.tmp 121)), none⟩, []⟩,
    ⟨12, ⟨(some 123), .op (.mv (.tmp 10)), none⟩, []⟩,
    ⟨13, ⟨(some 124), .op (.bin .add (.tmp 122) (.tmp 123)), none⟩, []⟩,
    ⟨14, ⟨(some 125), .op (.iaddrS (.tmp 119) (.tmp 124) 1), none⟩, []⟩,
    ⟨15, ⟨(some 126), .op (.load 1 false (.tmp 125)), none⟩, []⟩,
    ⟨16, ⟨(some 127), .op (.mv (.tmp 7)), none⟩, []⟩,
    ⟨17, ⟨(some 128), .op (.mv (.tmp 4)), none⟩, []⟩,
    ⟨18, ⟨(some 129), .op (.bin .sub (.tmp 127) (.tmp 128)), none⟩, []⟩,
    ⟨19, ⟨(some 130), .op (.iaddrS (.tmp 126) (.tmp 129) 1), none⟩, []⟩,
    ⟨20, ⟨(some 131), .op (.load 1 false (.tmp 130)), none⟩, []⟩,
    ⟨21, ⟨(some 132), .op (.iaddrS (.tmp 117) (.tmp 131) 1), none⟩, []⟩,
    ⟨22, ⟨(some 133), .op (.load 1 false (.tmp 132)), none⟩, []⟩,
    ⟨23, ⟨(some 134), .op (.mv (.tmp 13)), none⟩, []⟩,
    ⟨24, ⟨(some 135), .op (.mv (.tmp 4)), none⟩, []⟩,
    ⟨25, ⟨(some 136), .op (.bin .quo (.tmp 134) (.tmp 135)), none⟩, []⟩,
    ⟨26, ⟨(some 137), .op (.mv (.tmp 4)), none⟩, []⟩,
    ⟨27, ⟨(some 138), .op (.bin .mul (.tmp 136) (.tmp 137)), none⟩, []⟩,
    ⟨28, ⟨(some 139), .op (.bin .add (.tmp 133) (.tmp 138)), none⟩, []⟩,
    ⟨29, ⟨(some 14), .op (.mv (.tmp 139)), none⟩, []⟩]
    [0, 1, 0, 0, 12, 31, 63, 0, 128, 0, 512, 1536, 0, 7680, 16256, 32640, 0, 0, 196608, 524160, 1048448, 2097151, 4194303, 0, 0, 25165824, 0, 125829120, 268435455, 536870911]) (.kill [13, 111, 112, 113, 114, 115, 116, 117, 118, 119, 120, 121, 122, 123, 124, 125, 126, 127, 128, 129, 130, 131, 132, 133, 134, 135, 136, 137, 138, 139])))
  (.ghost (.kill [13, 110]) .skip)))
  (.post (.reg [⟨(some 140), .op (.mv (.tmp 11)), none⟩,
    ⟨(some 141), .op (.mv (.tmp 14)), none⟩,
    ⟨(some 142), .op (.lits true 1 1 (Value.int .i64 0) [(0, (.tmp 141))]), none⟩,
    ⟨(some 143), .op (.append (.tmp 140) (.tmp 142) 1 8), none⟩,
    ⟨(some 11), .op (.mv (.tmp 143)), none⟩]) (.kill [14, 140, 141, 142, 143]))))))
  (.post (.reg [⟨(some 93), .op (.mv (.tmp 12)), none⟩,
    ⟨(some 94), .op (.bin .add (.tmp 93) (.const (Value.int .i64 1))), none⟩,
    ⟨(some 12), .op (.mv (.tmp 94)), none⟩]) (.kill [93, 94]))))
def lo_spec_CheckerOfAlgebra_0 : AC := (.loop lb_spec_CheckerOfAlgebra_0)
def lb_spec_CheckerOfAlgebra_1 : AC := (.seq (.seq (.post (.reg [⟨(some 84), .op (.mv (.tmp 10)), none⟩,
    ⟨(some 85), .op (.bin .lss (.tmp 84) (.const (Value.int .i64 2))), none⟩]) (.kill [84]))
  (.cond (.tmp 85) (.ghost (.kill [85]) .skip)
  (.ghost (.kill [10, 85]) (.exit 2))))
  (.seq (.block 3 (.seq (.post (.reg [⟨(some 88), .op (.lits true 1 0 (Value.int .i64 0) []), none⟩,
    ⟨(some 11), .op (.mv (.tmp 88)), none⟩]) (.kill [88]))
  (.seq (.seq (.reg [⟨(some 12), .op (.mv (.const (Value.int .i64 0))), none⟩])
  (.block 4 (.ghost (.ow 6 (some 2) 1) (.ghost (.ow 6 (some 3) 1) (.ghost (.ow 6 (some 4) 1) (.ghost (.ow 6 (some 5) 1) (.ghost (.ow 9 none 1) (.ghost (.ow 11 none 1) lo_spec_CheckerOfAlgebra_0))))))))
  (.ghost (.kill [12]) (.post (.reg [⟨(some 144), .op (.mv (.tmp 9)), none⟩,
    ⟨(some 145), .op (.mv (.tmp 11)), none⟩,
    ⟨(some 146), .op (.mv (.tmp 5)), none⟩,
    ⟨(some 147), .op (.lits true 1 1 (Value.int .i64 0) [(0, (.tmp 146))]), none⟩,
    ⟨(some 148), .op (.append (.tmp 145) (.tmp 147) 1 8), none⟩,
    ⟨(some 149), .op (.lits true 1 1 (Value.slice none 0 0) [(0, (.tmp 148))]), none⟩,
    ⟨(some 150), .op (.append (.tmp 144) (.tmp 149) 1 24), none⟩,
    ⟨(some 9), .op (.mv (.tmp 150)), none⟩]) (.kill [11, 144, 145, 146, 147, 148, 149, 150]))))))
  (.post (.reg [⟨(some 86), .op (.mv (.tmp 10)), none⟩,
    ⟨(some 87), .op (.bin .add (.tmp 86) (.const (Value.int .i64 1))), none⟩,
    ⟨(some 10), .op (.mv (.tmp 87)), none⟩]) (.kill [86, 87]))))
def lo_spec_CheckerOfAlgebra_1 : AC := (.loop lb_spec_CheckerOfAlgebra_1)
def lb_spec_CheckerOfAlgebra_2 : AC := (.seq (.seq (.post (.reg [⟨(some 158), .op (.mv (.tmp 16)), none⟩,
    ⟨(some 159), .op (.bin .lss (.tmp 158) (.const (Value.int .i64 2))), none⟩]) (.kill [158]))
  (.cond (.tmp 159) (.ghost (.kill [159]) .skip)
  (.ghost (.kill [16, 159]) (.exit 6))))
  (.seq (.block 7 (.seq (.post (.reg [⟨(some 162), .op (.mv (.tmp 5)), none⟩,
    ⟨(some 17), .op (.mv (.tmp 162)), none⟩]) (.kill [162]))
  (.seq (.seq (.post (.reg [⟨(some 163), .op (.mv (.tmp 7)), none⟩,
    ⟨(some 164), .op (.mv (.tmp 5)), none⟩,
    ⟨(some 165), .op (.bin .lss (.tmp 163) (.tmp 164)), none⟩]) (.kill [163, 164]))
  (.cond (.tmp 165) (.ghost (.kill [17, 165]) (.post (.draw [⟨0, ⟨(some 166), .op (.faddr (.tmp 1) 0), none⟩, []⟩,
    ⟨1, ⟨(some 167), .op (.load 1 false (.tmp 166)), none⟩, []⟩,
    ⟨2, ⟨(some 168), .op (.mv (.tmp 7)), none⟩, []⟩,
    ⟨3, ⟨(some 169), .op (.mv (.tmp 4)), none⟩, []⟩,
    ⟨4, ⟨(some 170), .op (.bin .rem (.tmp 168) (.tmp 169)), none⟩, []⟩,
    ⟨5, ⟨(some 171), .op (.iaddrS (.tmp 167) (.tmp 170) 1), none⟩, []⟩,
    ⟨6, ⟨(some 172), .op (.load 1 false (.tmp 171)), none⟩, []⟩,
    ⟨7, ⟨(some 173), .op (.faddr (.tmp 1) 2), none⟩, []⟩,
    ⟨8, ⟨(some 174), .op (.load 1 false (.tmp 173)), none⟩, []⟩,
    ⟨9, ⟨(some 175), .op (.mv (.tmp 16)), none⟩, []⟩,
    ⟨10, ⟨(some 176), .op (.iaddrS (.tmp 174) (.tmp 175) 1), none⟩, []⟩,
    ⟨11, ⟨(some 177), .op (.load 1 false (.tmp 176)), none⟩, []⟩,
    ⟨12, ⟨(some 178), .op (.iaddrS (.tmp 172) (.tmp 177) 1), none⟩, []⟩,
    ⟨13, ⟨(some 179), .op (.load 1 false (.tmp 178)), none⟩, []⟩,
    ⟨14, ⟨(some 180), .op (.mv (.tmp 7)), none⟩, []⟩,
    ⟨15, ⟨(some 181), .op (.mv (.tmp 4)), none⟩, []⟩,
    ⟨16, ⟨(some 182), .op (.bin .quo (.tmp 180) (.tmp 181)), none⟩, []⟩,
    ⟨17, ⟨(some 183), .op (.mv (.tmp 4)), none⟩, []⟩,
    ⟨18, ⟨(some 184), .op (.bin .mul (.tmp 182) (.tmp 183)), none⟩, []⟩,
    ⟨19, ⟨(some 185), .op (.bin .add (.tmp 179) (.tmp 184)), none⟩, []⟩,
    ⟨20, ⟨(some 17), .op (.mv (.tmp 185)), none⟩, []⟩]
    [0, 1, 0, 0, 12, 31, 63, 0, 128, 0, 896, 1920, 4095, 8191, 0, 0, 49152, 0, 245760, 524287, 1048575]) (.kill [166, 167, 168, 169, 170, 171, 172, 173, 174, 175, 176, 177, 178, 179, 180, 181, 182, 183, 184, 185])))
  (.ghost (.kill [165]) .skip)))
  (.post (.reg [⟨(some 186), .op (.mv (.tmp 15)), none⟩,
    ⟨(some 187), .op (.mv (.tmp 17)), none⟩,
    ⟨(some 188), .op (.lits true 1 1 (Value.int .i64 0) [(0, (.tmp 187))]), none⟩,
    ⟨(some 189), .op (.append (.tmp 186) (.tmp 188) 1 8), none⟩,
    ⟨(some 15), .op (.mv (.tmp 189)), none⟩]) (.kill [17, 186, 187, 188, 189])))))
  (.post (.reg [⟨(some 160), .op (.mv (.tmp 16)), none⟩,
    ⟨(some 161), .op (.bin .add (.tmp 160) (.const (Value.int .i64 1))), none⟩,
    ⟨(some 16), .op (.mv (.tmp 161)), none⟩]) (.kill [160, 161]))))
def lo_spec_CheckerOfAlgebra_2 : AC := (.loop lb_spec_CheckerOfAlgebra_2)
def lb_spec_CheckerOfAlgebra_3 : AC := (.seq (.seq (.post (.reg [⟨(some 41), .op (.mv (.tmp 7)), none⟩,
    ⟨(some 42), .op (.mv (.tmp 5)), none⟩,
    ⟨(some 43), .op (.bin .leq (.tmp 41) (.tmp 42)), none⟩]) (.kill [41, 42]))
  (.cond (.tmp 43) (.ghost (.kill [43]) .skip)
  (.ghost (.kill [1, 4, 5, 7, 43]) (.exit 0))))
  (.seq (.block 1 (.seq (.post (.draw [⟨0, ⟨(some 46), .op (.faddr (.tmp 6) 2), none⟩, []⟩,
    ⟨1, ⟨(some 47), .op (.load 1 false (.tmp 46)), none⟩, []⟩,
    ⟨2, ⟨(some 48), .op (.mv (.tmp 7)), none⟩, []⟩,
    ⟨3, ⟨(some 49), .op (.mv (.tmp 4)), none⟩, []⟩,
    ⟨4, ⟨(some 50), .op (.bin .lss (.tmp 48) (.tmp 49)), none⟩, []⟩,
    ⟨5, ⟨(some 51), .op (.mv (.tmp 50)), none⟩, []⟩,
    ⟨6, ⟨(some 52), .op (.faddr (.tmp 1) 3), some (51, true)⟩, []⟩,
    ⟨7, ⟨(some 53), .op (.load 1 false (.tmp 52)), some (51, true)⟩, []⟩,
    ⟨8, ⟨(some 54), .op (.mv (.tmp 7)), some (51, true)⟩, []⟩,
    ⟨9, ⟨(some 55), .op (.mv (.tmp 4)), some (51, true)⟩, []⟩,
    ⟨10, ⟨(some 56), .op (.bin .rem (.tmp 54) (.tmp 55)), some (51, true)⟩, []⟩,
    ⟨11, ⟨(some 57), .op (.iaddrS (.tmp 53) (.tmp 56) 1), some (51, true)⟩, []⟩,
    ⟨12, ⟨(some 58), .op (.load 1 false (.tmp 57)), some (51, true)⟩, []⟩,
    ⟨13, ⟨(some 59), .op (.pick (.tmp 51) (.tmp 58) (.const (Value.bool false))), none⟩, []⟩,
    ⟨14, ⟨(some 60), .op (.lits true 1 1 (Value.bool false) [(0, (.tmp 59))]), none⟩, []⟩,
    ⟨15, ⟨(some 61), .op (.append (.tmp 47) (.tmp 60) 1 1), none⟩, []⟩,
    ⟨16, ⟨(some 62), .op (.faddr (.tmp 6) 2), none⟩, []⟩,
    ⟨17, ⟨none, .op (.store 1 (.tmp 62) (.tmp 61)), none⟩, []⟩]
    [0, 1, 0, 0, 12, 28, 60, 124, 60, 60, 828, 2044, 4092, 8188, 16380, 32767, 65535, 131071]) (.kill [46, 47, 48, 49, 50, 51, 52, 53, 54, 55, 56, 57, 58, 59, 60, 61, 62]))
  (.seq (.post (.reg [⟨(some 63), .op (.mv (.tmp 4)), none⟩,
    ⟨(some 8), .op (.mv (.tmp 63)), none⟩]) (.kill [63]))
  (.seq (.seq (.post (.reg [⟨(some 64), .op (.mv (.tmp 7)), none⟩,
    ⟨(some 65), .op (.mv (.tmp 5)), none⟩,
    ⟨(some 66), .op (.bin .eql (.tmp 64) (.tmp 65)), none⟩]) (.kill [64, 65]))
  (.cond (.tmp 66) (.ghost (.kill [8, 66]) (.post (.reg [⟨(some 67), .op (.mv (.tmp 5)), none⟩,
    ⟨(some 8), .op (.mv (.tmp 67)), none⟩]) (.kill [67])))
  (.ghost (.kill [66]) .skip)))
  (.seq (.post (.reg [⟨(some 68), .op (.faddr (.tmp 6) 3), none⟩,
    ⟨(some 69), .op (.load 1 false (.tmp 68)), none⟩,
    ⟨(some 70), .op (.mv (.tmp 8)), none⟩,
    ⟨(some 71), .op (.mv (.tmp 7)), none⟩,
    ⟨(some 72), .op (.bin .mul (.const (Value.int .i64 2)) (.tmp 71)), none⟩,
    ⟨(some 73), .op (.build [Value.int .i64 0, Value.int .i64 0] [(0, 1, (.tmp 70)), (1, 1, (.tmp 72))]), none⟩,
    ⟨(some 74), .op (.mv (.tmp 8)), none⟩,
    ⟨(some 75), .op (.mv (.tmp 7)), none⟩,
    ⟨(some 76), .op (.bin .mul (.const (Value.int .i64 2)) (.tmp 75)), none⟩,
    ⟨(some 77), .op (.bin .add (.tmp 76) (.const (Value.int .i64 1))), none⟩,
    ⟨(some 78), .op (.build [Value.int .i64 0, Value.int .i64 0] [(0, 1, (.tmp 74)), (1, 1, (.tmp 77))]), none⟩,
    ⟨(some 79), .op (.lits false 2 2 (Value.agg #[Value.int .i64 0, Value.int .i64 0]) [(0, (.tmp 73)), (1, (.tmp 78))]), none⟩,
    ⟨(some 80), .op (.lits true 1 1 (Value.slice none 0 0) [(0, (.tmp 79))]), none⟩,
    ⟨(some 81), .op (.append (.tmp 69) (.tmp 80) 1 24), none⟩,
    ⟨(some 82), .op (.faddr (.tmp 6) 3), none⟩,
    ⟨none, .op (.store 1 (.tmp 82) (.tmp 81)), none⟩]) (.kill [8, 68, 69, 70, 71, 72, 73, 74, 75, 76, 77, 78, 79, 80, 81, 82]))
  (.seq (.post (.reg [⟨(some 83), .op (.lits true 1 0 (Value.slice none 0 0) []), none⟩,
    ⟨(some 9), .op (.mv (.tmp 83)), none⟩]) (.kill [83]))
  (.seq (.seq (.reg [⟨(some 10), .op (.mv (.const (Value.int .i64 0))), none⟩])
  (.block 2 (.ghost (.ow 6 (some 2) 1) (.ghost (.ow 6 (some 3) 1) (.ghost (.ow 6 (some 4) 1) (.ghost (.ow 6 (some 5) 1) (.ghost (.ow 9 none 1) lo_spec_CheckerOfAlgebra_1)))))))
  (.ghost (.kill [10]) (.seq (.post (.reg [⟨(some 151), .op (.faddr (.tmp 6) 4), none⟩,
    ⟨(some 152), .op (.load 1 false (.tmp 151)), none⟩,
    ⟨(some 153), .op (.mv (.tmp 9)), none⟩,
    ⟨(some 154), .op (.lits true 1 1 (Value.slice none 0 0) [(0, (.tmp 153))]), none⟩,
    ⟨(some 155), .op (.append (.tmp 152) (.tmp 154) 1 24), none⟩,
    ⟨(some 156), .op (.faddr (.tmp 6) 4), none⟩,
    ⟨none, .op (.store 1 (.tmp 156) (.tmp 155)), none⟩]) (.kill [9, 151, 152, 153, 154, 155, 156]))
  (.seq (.post (.reg [⟨(some 157), .op (.lits true 1 0 (Value.int .i64 0) []), none⟩,
    ⟨(some 15), .op (.mv (.tmp 157)), none⟩]) (.kill [157]))
  (.seq (.seq (.reg [⟨(some 16), .op (.mv (.const (Value.int .i64 0))), none⟩])
  (.block 6 (.ghost (.ow 6 (some 2) 1) (.ghost (.ow 6 (some 3) 1) (.ghost (.ow 6 (some 4) 1) (.ghost (.ow 6 (some 5) 1) (.ghost (.ow 15 none 1) lo_spec_CheckerOfAlgebra_2)))))))
  (.ghost (.kill [16]) (.post (.reg [⟨(some 190), .op (.faddr (.tmp 6) 5), none⟩,
    ⟨(some 191), .op (.load 1 false (.tmp 190)), none⟩,
    ⟨(some 192), .op (.mv (.tmp 15)), none⟩,
    ⟨(some 193), .op (.lits true 1 1 (Value.slice none 0 0) [(0, (.tmp 192))]), none⟩,
    ⟨(some 194), .op (.append (.tmp 191) (.tmp 193) 1 24), none⟩,
    ⟨(some 195), .op (.faddr (.tmp 6) 5), none⟩,
    ⟨none, .op (.store 1 (.tmp 195) (.tmp 194)), none⟩]) (.kill [15, 190, 191, 192, 193, 194, 195]))))))))))))))
  (.post (.reg [⟨(some 44), .op (.mv (.tmp 7)), none⟩,
    ⟨(some 45), .op (.bin .add (.tmp 44) (.const (Value.int .i64 1))), none⟩,
    ⟨(some 7), .op (.mv (.tmp 45)), none⟩]) (.kill [44, 45]))))
def lo_spec_CheckerOfAlgebra_3 : AC := (.loop lb_spec_CheckerOfAlgebra_3)
def ac_spec_CheckerOfAlgebra : AC := (.seq (.post (.reg [⟨(some 1), .op (.box true (.tmp 0)), none⟩,
    ⟨(some 2), .op (.alloc (Value.agg #[Value.int .i64 0, Value.int .i64 0, Value.slice none 0 0, Value.slice none 0 0, Value.slice none 0 0, Value.slice none 0 0])), none⟩,
    ⟨(some 3), .op (.mv (.const (Value.int .i64 0))), none⟩]) (.kill [0, 3]))
  (.seq (.seq (.post (.reg [⟨(some 18), .call (.func i_spec_l04Ok) [(.tmp 1)], none⟩,
    ⟨(some 19), .op (.un .not (.tmp 18)), none⟩]) (.kill [18]))
  (.cond (.tmp 19) (.ghost (.kill [1, 19]) (.seq (.post (.reg [⟨(some 20), .op (.build [Value.int .i64 0, Value.int .i64 0, Value.slice none 0 0, Value.slice none 0 0, Value.slice none 0 0, Value.slice none 0 0] []), none⟩,
    ⟨none, .op (.store 6 (.tmp 2) (.tmp 20)), none⟩,
    ⟨(some 3), .op (.mv (.const (Value.int .i64 1))), none⟩]) (.kill [20]))
  .ret))
  (.ghost (.kill [19]) .skip)))
  (.seq (.post (.reg [⟨(some 21), .op (.faddr (.tmp 1) 3), none⟩,
    ⟨(some 22), .op (.load 1 false (.tmp 21)), none⟩,
    ⟨(some 23), .op (.len false (.tmp 22)), none⟩,
    ⟨(some 4), .op (.mv (.tmp 23)), none⟩]) (.kill [21, 22, 23]))
  (.seq (.seq (.post (.reg [⟨(some 24), .op (.mv (.tmp 4)), none⟩,
    ⟨(some 25), .op (.bin .mul (.const (Value.int .i64 2)) (.tmp 24)), none⟩,
    ⟨(some 26), .op (.bin .add (.tmp 25) (.const (Value.int .i64 1))), none⟩,
    ⟨(some 27), .op (.bin .gtr (.tmp 26) (.const (Value.int .i64 40))), none⟩,
    ⟨(some 28), .op (.mv (.tmp 27)), none⟩,
    ⟨(some 29), .op (.mv (.tmp 4)), some (28, false)⟩,
    ⟨(some 30), .op (.bin .mul (.const (Value.int .i64 4)) (.tmp 29)), some (28, false)⟩,
    ⟨(some 31), .op (.bin .add (.tmp 30) (.const (Value.int .i64 2))), some (28, false)⟩,
    ⟨(some 32), .op (.bin .gtr (.tmp 31) (.const (Value.int .i64 80))), some (28, false)⟩,
    ⟨(some 33), .op (.pick (.tmp 28) (.const (Value.bool true)) (.tmp 32)), none⟩]) (.kill [24, 25, 26, 27, 28, 29, 30, 31, 32]))
  (.cond (.tmp 33) (.ghost (.kill [1, 4, 33]) (.seq (.post (.reg [⟨(some 34), .op (.build [Value.int .i64 0, Value.int .i64 0, Value.slice none 0 0, Value.slice none 0 0, Value.slice none 0 0, Value.slice none 0 0] []), none⟩,
    ⟨none, .op (.store 6 (.tmp 2) (.tmp 34)), none⟩,
    ⟨(some 3), .op (.mv (.const (Value.int .i64 3))), none⟩]) (.kill [34]))
  .ret))
  (.ghost (.kill [33]) .skip)))
  (.seq (.post (.reg [⟨(some 35), .op (.mv (.tmp 4)), none⟩,
    ⟨(some 36), .op (.bin .mul (.const (Value.int .i64 2)) (.tmp 35)), none⟩,
    ⟨(some 5), .op (.mv (.tmp 36)), none⟩]) (.kill [35, 36]))
  (.seq (.post (.reg [⟨(some 37), .op (.mv (.tmp 4)), none⟩,
    ⟨(some 38), .op (.bin .mul (.const (Value.int .i64 4)) (.tmp 37)), none⟩,
    ⟨(some 39), .op (.bin .add (.tmp 38) (.const (Value.int .i64 2))), none⟩,
    ⟨(some 40), .op (.build [Value.int .i64 0, Value.int .i64 0, Value.slice none 0 0, Value.slice none 0 0, Value.slice none 0 0, Value.slice none 0 0] [(0, 1, (.tmp 39))]), none⟩,
    ⟨(some 6), .op (.alloc (Value.agg #[Value.int .i64 0, Value.int .i64 0, Value.slice none 0 0, Value.slice none 0 0, Value.slice none 0 0, Value.slice none 0 0])), none⟩,
    ⟨none, .op (.store 6 (.tmp 6) (.tmp 40)), none⟩]) (.kill [37, 38, 39, 40]))
  (.seq (.seq (.reg [⟨(some 7), .op (.mv (.const (Value.int .i64 0))), none⟩])
  (.block 0 (.ghost (.ow 6 (some 2) 1) (.ghost (.ow 6 (some 3) 1) (.ghost (.ow 6 (some 4) 1) (.ghost (.ow 6 (some 5) 1) lo_spec_CheckerOfAlgebra_3))))))
  (.ghost (.kill [1, 4, 5, 7]) (.seq (.post (.reg [⟨(some 196), .op (.load 6 true (.tmp 6)), none⟩,
    ⟨none, .op (.store 6 (.tmp 2) (.tmp 196)), none⟩,
    ⟨(some 3), .op (.mv (.const (Value.int .i64 0))), none⟩]) (.kill [6, 196]))
  .ret)))))))))
theorem cf_spec_CheckerOfAlgebra : chkFn Try.prog i_spec_CheckerOfAlgebra ac_spec_CheckerOfAlgebra [.cell 2 6 true, .tmp 3] 197 = true := by decide +kernel
def fa_spec_CheckerOfAlgebra : FnA := ⟨ac_spec_CheckerOfAlgebra, [.cell 2 6 true, .tmp 3], 197, false, true, [(.agg [(.lst 1 (.lst 1 .any)), (.lst 1 (.lst 1 .any)), (.lst 1 .any), (.lst 1 .any)])], .any, none⟩

/-- The checked code of laws toInt64S. -/
def lb_laws_toInt64S_0 : AC := (.seq (.seq (.post (.reg [⟨(some 8), .op (.mv (.tmp 4)), none⟩,
    ⟨(some 9), .op (.mv (.tmp 0)), none⟩,
    ⟨(some 10), .op (.len false (.tmp 9)), none⟩,
    ⟨(some 11), .op (.bin .lss (.tmp 8) (.tmp 10)), none⟩]) (.kill [8, 9, 10]))
  (.cond (.tmp 11) (.ghost (.kill [11]) .skip)
  (.ghost (.kill [0, 4, 11]) (.exit 0))))
  (.seq (.block 1 (.post (.reg [⟨(some 14), .op (.mv (.tmp 3)), none⟩,
    ⟨(some 15), .op (.mv (.tmp 4)), none⟩,
    ⟨(some 16), .op (.mv (.tmp 0)), none⟩,
    ⟨(some 17), .op (.mv (.tmp 4)), none⟩,
    ⟨(some 18), .op (.iaddrS (.tmp 16) (.tmp 17) 1), none⟩,
    ⟨(some 19), .op (.load 1 false (.tmp 18)), none⟩,
    ⟨(some 20), .op (.iaddrS (.tmp 14) (.tmp 15) 1), none⟩,
    ⟨none, .op (.store 1 (.tmp 20) (.tmp 19)), none⟩]) (.kill [14, 15, 16, 17, 18, 19, 20])))
  (.post (.reg [⟨(some 12), .op (.mv (.tmp 4)), none⟩,
    ⟨(some 13), .op (.bin .add (.tmp 12) (.const (Value.int .i64 1))), none⟩,
    ⟨(some 4), .op (.mv (.tmp 13)), none⟩]) (.kill [12, 13]))))
def lo_laws_toInt64S_0 : AC := (.loop lb_laws_toInt64S_0)
def ac_laws_toInt64S : AC := (.seq (.post (.reg [⟨(some 2), .op (.mv (.const (Value.slice none 0 0))), none⟩]) (.kill [2]))
  (.seq (.post (.reg [⟨(some 5), .op (.mv (.tmp 0)), none⟩,
    ⟨(some 6), .op (.len false (.tmp 5)), none⟩,
    ⟨(some 7), .op (.make (.tmp 6) (.tmp 6) 1 8 (Value.int .i64 0)), none⟩,
    ⟨(some 3), .op (.mv (.tmp 7)), none⟩]) (.kill [5, 6, 7]))
  (.seq (.seq (.reg [⟨(some 4), .op (.mv (.const (Value.int .i64 0))), none⟩])
  (.block 0 lo_laws_toInt64S_0))
  (.ghost (.kill [0, 4]) (.seq (.post (.reg [⟨(some 21), .op (.mv (.tmp 3)), none⟩,
    ⟨(some 2), .op (.mv (.tmp 21)), none⟩]) (.kill [3, 21]))
  .ret)))))
theorem cf_laws_toInt64S : chkFn Try.prog i_laws_toInt64S ac_laws_toInt64S [.tmp 2] 22 = true := by decide +kernel
def fa_laws_toInt64S : FnA := ⟨ac_laws_toInt64S, [.tmp 2], 22, false, false, [], .any, none⟩

/-- The checked code of laws toBoolS. -/
def lb_laws_toBoolS_0 : AC := (.seq (.seq (.post (.reg [⟨(some 8), .op (.mv (.tmp 4)), none⟩,
    ⟨(some 9), .op (.mv (.tmp 0)), none⟩,
    ⟨(some 10), .op (.len false (.tmp 9)), none⟩,
    ⟨(some 11), .op (.bin .lss (.tmp 8) (.tmp 10)), none⟩]) (.kill [8, 9, 10]))
  (.cond (.tmp 11) (.ghost (.kill [11]) .skip)
  (.ghost (.kill [0, 4, 11]) (.exit 0))))
  (.seq (.block 1 (.post (.reg [⟨(some 14), .op (.mv (.tmp 3)), none⟩,
    ⟨(some 15), .op (.mv (.tmp 4)), none⟩,
    ⟨(some 16), .op (.mv (.tmp 0)), none⟩,
    ⟨(some 17), .op (.mv (.tmp 4)), none⟩,
    ⟨(some 18), .op (.iaddrS (.tmp 16) (.tmp 17) 1), none⟩,
    ⟨(some 19), .op (.load 1 false (.tmp 18)), none⟩,
    ⟨(some 20), .op (.iaddrS (.tmp 14) (.tmp 15) 1), none⟩,
    ⟨none, .op (.store 1 (.tmp 20) (.tmp 19)), none⟩]) (.kill [14, 15, 16, 17, 18, 19, 20])))
  (.post (.reg [⟨(some 12), .op (.mv (.tmp 4)), none⟩,
    ⟨(some 13), .op (.bin .add (.tmp 12) (.const (Value.int .i64 1))), none⟩,
    ⟨(some 4), .op (.mv (.tmp 13)), none⟩]) (.kill [12, 13]))))
def lo_laws_toBoolS_0 : AC := (.loop lb_laws_toBoolS_0)
def ac_laws_toBoolS : AC := (.seq (.post (.reg [⟨(some 2), .op (.mv (.const (Value.slice none 0 0))), none⟩]) (.kill [2]))
  (.seq (.post (.reg [⟨(some 5), .op (.mv (.tmp 0)), none⟩,
    ⟨(some 6), .op (.len false (.tmp 5)), none⟩,
    ⟨(some 7), .op (.make (.tmp 6) (.tmp 6) 1 1 (Value.bool false)), none⟩,
    ⟨(some 3), .op (.mv (.tmp 7)), none⟩]) (.kill [5, 6, 7]))
  (.seq (.seq (.reg [⟨(some 4), .op (.mv (.const (Value.int .i64 0))), none⟩])
  (.block 0 lo_laws_toBoolS_0))
  (.ghost (.kill [0, 4]) (.seq (.post (.reg [⟨(some 21), .op (.mv (.tmp 3)), none⟩,
    ⟨(some 2), .op (.mv (.tmp 21)), none⟩]) (.kill [3, 21]))
  .ret)))))
theorem cf_laws_toBoolS : chkFn Try.prog i_laws_toBoolS ac_laws_toBoolS [.tmp 2] 22 = true := by decide +kernel
def fa_laws_toBoolS : FnA := ⟨ac_laws_toBoolS, [.tmp 2], 22, false, false, [], .any, none⟩

/-- The checked code of laws toInt64SS. -/
def lb_laws_toInt64SS_0 : AC := (.seq (.seq (.post (.reg [⟨(some 8), .op (.mv (.tmp 4)), none⟩,
    ⟨(some 9), .op (.mv (.tmp 0)), none⟩,
    ⟨(some 10), .op (.len false (.tmp 9)), none⟩,
    ⟨(some 11), .op (.bin .lss (.tmp 8) (.tmp 10)), none⟩]) (.kill [8, 9, 10]))
  (.cond (.tmp 11) (.ghost (.kill [11]) .skip)
  (.ghost (.kill [0, 4, 11]) (.exit 0))))
  (.seq (.block 1 (.post (.reg [⟨(some 14), .op (.mv (.tmp 3)), none⟩,
    ⟨(some 15), .op (.mv (.tmp 4)), none⟩,
    ⟨(some 16), .op (.mv (.tmp 0)), none⟩,
    ⟨(some 17), .op (.mv (.tmp 4)), none⟩,
    ⟨(some 18), .op (.iaddrS (.tmp 16) (.tmp 17) 1), none⟩,
    ⟨(some 19), .op (.load 1 false (.tmp 18)), none⟩,
    ⟨(some 20), .call (.func i_laws_toInt64S) [(.tmp 19)], none⟩,
    ⟨(some 21), .op (.iaddrS (.tmp 14) (.tmp 15) 1), none⟩,
    ⟨none, .op (.store 1 (.tmp 21) (.tmp 20)), none⟩]) (.kill [14, 15, 16, 17, 18, 19, 20, 21])))
  (.post (.reg [⟨(some 12), .op (.mv (.tmp 4)), none⟩,
    ⟨(some 13), .op (.bin .add (.tmp 12) (.const (Value.int .i64 1))), none⟩,
    ⟨(some 4), .op (.mv (.tmp 13)), none⟩]) (.kill [12, 13]))))
def lo_laws_toInt64SS_0 : AC := (.loop lb_laws_toInt64SS_0)
def ac_laws_toInt64SS : AC := (.seq (.post (.reg [⟨(some 2), .op (.mv (.const (Value.slice none 0 0))), none⟩]) (.kill [2]))
  (.seq (.post (.reg [⟨(some 5), .op (.mv (.tmp 0)), none⟩,
    ⟨(some 6), .op (.len false (.tmp 5)), none⟩,
    ⟨(some 7), .op (.make (.tmp 6) (.tmp 6) 1 24 (Value.slice none 0 0)), none⟩,
    ⟨(some 3), .op (.mv (.tmp 7)), none⟩]) (.kill [5, 6, 7]))
  (.seq (.seq (.reg [⟨(some 4), .op (.mv (.const (Value.int .i64 0))), none⟩])
  (.block 0 lo_laws_toInt64SS_0))
  (.ghost (.kill [0, 4]) (.seq (.post (.reg [⟨(some 22), .op (.mv (.tmp 3)), none⟩,
    ⟨(some 2), .op (.mv (.tmp 22)), none⟩]) (.kill [3, 22]))
  .ret)))))
theorem cf_laws_toInt64SS : chkFn Try.prog i_laws_toInt64SS ac_laws_toInt64SS [.tmp 2] 23 = true := by decide +kernel
def fa_laws_toInt64SS : FnA := ⟨ac_laws_toInt64SS, [.tmp 2], 23, false, false, [], .any, none⟩

/-- The checked code of laws toAlgebra. -/
def ac_laws_toAlgebra : AC := (.seq (.post (.reg [⟨(some 1), .op (.box true (.tmp 0)), none⟩,
    ⟨(some 2), .op (.alloc (Value.agg #[Value.slice none 0 0, Value.slice none 0 0, Value.slice none 0 0, Value.slice none 0 0])), none⟩]) (.kill [0]))
  (.seq (.reg [⟨(some 3), .op (.alloc (Value.agg #[Value.slice none 0 0, Value.slice none 0 0, Value.slice none 0 0, Value.slice none 0 0])), none⟩])
  (.seq (.post (.reg [⟨(some 4), .op (.faddr (.tmp 1) 0), none⟩,
    ⟨(some 5), .op (.load 1 false (.tmp 4)), none⟩,
    ⟨(some 6), .call (.func i_laws_toInt64SS) [(.tmp 5)], none⟩,
    ⟨(some 7), .op (.faddr (.tmp 3) 0), none⟩,
    ⟨none, .op (.store 1 (.tmp 7) (.tmp 6)), none⟩]) (.kill [4, 5, 6, 7]))
  (.seq (.post (.reg [⟨(some 8), .op (.faddr (.tmp 1) 1), none⟩,
    ⟨(some 9), .op (.load 1 false (.tmp 8)), none⟩,
    ⟨(some 10), .call (.func i_laws_toInt64SS) [(.tmp 9)], none⟩,
    ⟨(some 11), .op (.faddr (.tmp 3) 1), none⟩,
    ⟨none, .op (.store 1 (.tmp 11) (.tmp 10)), none⟩]) (.kill [8, 9, 10, 11]))
  (.seq (.post (.reg [⟨(some 12), .op (.faddr (.tmp 1) 2), none⟩,
    ⟨(some 13), .op (.load 1 false (.tmp 12)), none⟩,
    ⟨(some 14), .call (.func i_laws_toInt64S) [(.tmp 13)], none⟩,
    ⟨(some 15), .op (.faddr (.tmp 3) 2), none⟩,
    ⟨none, .op (.store 1 (.tmp 15) (.tmp 14)), none⟩]) (.kill [12, 13, 14, 15]))
  (.seq (.post (.reg [⟨(some 16), .op (.faddr (.tmp 1) 3), none⟩,
    ⟨(some 17), .op (.load 1 false (.tmp 16)), none⟩,
    ⟨(some 18), .call (.func i_laws_toBoolS) [(.tmp 17)], none⟩,
    ⟨(some 19), .op (.faddr (.tmp 3) 3), none⟩,
    ⟨none, .op (.store 1 (.tmp 19) (.tmp 18)), none⟩]) (.kill [1, 16, 17, 18, 19]))
  (.seq (.post (.reg [⟨(some 20), .op (.load 4 true (.tmp 3)), none⟩,
    ⟨none, .op (.store 4 (.tmp 2) (.tmp 20)), none⟩]) (.kill [3, 20]))
  .ret)))))))
theorem cf_laws_toAlgebra : chkFn Try.prog i_laws_toAlgebra ac_laws_toAlgebra [.cell 2 4 true] 21 = true := by decide +kernel
def fa_laws_toAlgebra : FnA := ⟨ac_laws_toAlgebra, [.cell 2 4 true], 21, false, false, [], .any, none⟩

/-- The checked code of impl size bool . -/
def ac_impl_size_bool : AC := (.seq (.post (.reg [⟨(some 2), .op (.mv (.const (Value.int .i64 0))), none⟩]) (.kill [2]))
  (.seq (.post (.reg [⟨(some 3), .op (.mv (.tmp 0)), none⟩,
    ⟨(some 4), .op (.len false (.tmp 3)), none⟩,
    ⟨(some 2), .op (.mv (.tmp 4)), none⟩]) (.kill [0, 3, 4]))
  .ret))
theorem cf_impl_size_bool : chkFn Try.prog i_impl_size_bool ac_impl_size_bool [.tmp 2] 5 = true := by decide +kernel
def fa_impl_size_bool : FnA := ⟨ac_impl_size_bool, [.tmp 2], 5, false, true, [], .any, none⟩

/-- The checked code of impl Algebra  elements. -/
def ac_impl_Algebra_elements : AC := (.seq (.post (.reg [⟨(some 1), .op (.box true (.tmp 0)), none⟩,
    ⟨(some 2), .op (.mv (.const (Value.int .i64 0))), none⟩]) (.kill [0, 2]))
  (.seq (.post (.reg [⟨(some 3), .op (.faddr (.tmp 1) 3), none⟩,
    ⟨(some 4), .op (.load 1 false (.tmp 3)), none⟩,
    ⟨(some 5), .call (.func i_impl_size_bool) [(.tmp 4)], none⟩,
    ⟨(some 2), .op (.mv (.tmp 5)), none⟩]) (.kill [1, 3, 4, 5]))
  .ret))
theorem cf_impl_Algebra_elements : chkFn Try.prog i_impl_Algebra_elements ac_impl_Algebra_elements [.tmp 2] 6 = true := by decide +kernel
def fa_impl_Algebra_elements : FnA := ⟨ac_impl_Algebra_elements, [.tmp 2], 6, false, true, [], .any, none⟩

/-- The checked code of impl within. -/
def ac_impl_within : AC := (.seq (.post (.reg [⟨(some 6), .op (.mv (.const (Value.bool false))), none⟩]) (.kill [6]))
  (.seq (.post (.reg [⟨(some 7), .op (.mv (.tmp 0)), none⟩,
    ⟨(some 8), .op (.mv (.tmp 1)), none⟩,
    ⟨(some 9), .op (.bin .geq (.tmp 7) (.tmp 8)), none⟩,
    ⟨(some 10), .op (.mv (.tmp 9)), none⟩,
    ⟨(some 11), .op (.mv (.tmp 0)), some (10, true)⟩,
    ⟨(some 12), .op (.mv (.tmp 2)), some (10, true)⟩,
    ⟨(some 13), .op (.bin .leq (.tmp 11) (.tmp 12)), some (10, true)⟩,
    ⟨(some 14), .op (.pick (.tmp 10) (.tmp 13) (.const (Value.bool false))), none⟩,
    ⟨(some 6), .op (.mv (.tmp 14)), none⟩]) (.kill [0, 1, 2, 7, 8, 9, 10, 11, 12, 13, 14]))
  .ret))
theorem cf_impl_within : chkFn Try.prog i_impl_within ac_impl_within [.tmp 6] 15 = true := by decide +kernel
def fa_impl_within : FnA := ⟨ac_impl_within, [.tmp 6], 15, false, true, [], .any, none⟩

/-- The checked code of impl size   int64 . -/
def ac_impl_size_L_int64 : AC := (.seq (.post (.reg [⟨(some 2), .op (.mv (.const (Value.int .i64 0))), none⟩]) (.kill [2]))
  (.seq (.post (.reg [⟨(some 3), .op (.mv (.tmp 0)), none⟩,
    ⟨(some 4), .op (.len false (.tmp 3)), none⟩,
    ⟨(some 2), .op (.mv (.tmp 4)), none⟩]) (.kill [0, 3, 4]))
  .ret))
theorem cf_impl_size_L_int64 : chkFn Try.prog i_impl_size_L_int64 ac_impl_size_L_int64 [.tmp 2] 5 = true := by decide +kernel
def fa_impl_size_L_int64 : FnA := ⟨ac_impl_size_L_int64, [.tmp 2], 5, false, true, [], .any, none⟩

/-- The checked code of slices IndexFunc   int64 int64 . -/
def lb_slices_IndexFunc_L_int64_0 : AC := (.seq (.reg [⟨(some 9), .op (.bin .lss (.tmp 8) (.tmp 7)), none⟩])
  (.seq (.cond (.tmp 9) (.ghost (.kill [9]) .skip)
  (.ghost (.kill [0, 1, 7, 8, 9]) (.exit 0)))
  (.seq (.block 1 (.seq (.post (.reg [⟨(some 10), .op (.mv (.tmp 8)), none⟩,
    ⟨(some 5), .op (.mv (.tmp 10)), none⟩]) (.kill [10]))
  (.seq (.post (.reg [⟨(some 11), .op (.mv (.tmp 1)), none⟩,
    ⟨(some 12), .op (.mv (.tmp 0)), none⟩,
    ⟨(some 13), .op (.mv (.tmp 5)), none⟩,
    ⟨(some 14), .op (.iaddrS (.tmp 12) (.tmp 13) 1), none⟩,
    ⟨(some 15), .op (.load 1 false (.tmp 14)), none⟩,
    ⟨(some 16), .call (.tmp 11) [(.tmp 15)], none⟩]) (.kill [11, 12, 13, 14, 15]))
  (.cond (.tmp 16) (.ghost (.kill [0, 1, 7, 8, 16]) (.seq (.post (.reg [⟨(some 17), .op (.mv (.tmp 5)), none⟩,
    ⟨(some 4), .op (.mv (.tmp 17)), none⟩]) (.kill [5, 17]))
  .ret))
  (.ghost (.kill [5, 16]) .skip)))))
  (.post (.reg [⟨(some 18), .op (.bin .add (.tmp 8) (.const (Value.int .i64 1))), none⟩,
    ⟨(some 8), .op (.mv (.tmp 18)), none⟩]) (.kill [18])))))
def lo_slices_IndexFunc_L_int64_0 : AC := (.loop lb_slices_IndexFunc_L_int64_0)
def ac_slices_IndexFunc_L_int64 : AC := (.seq (.post (.reg [⟨(some 4), .op (.mv (.const (Value.int .i64 0))), none⟩]) (.kill [4]))
  (.seq (.seq (.post (.reg [⟨(some 6), .op (.mv (.tmp 0)), none⟩,
    ⟨(some 7), .op (.len false (.tmp 6)), none⟩,
    ⟨(some 8), .op (.mv (.const (Value.int .i64 0))), none⟩]) (.kill [6]))
  (.block 0 lo_slices_IndexFunc_L_int64_0))
  (.ghost (.kill [0, 1, 7, 8]) (.seq (.reg [⟨(some 4), .op (.mv (.const (Value.int .i64 (-1)))), none⟩])
  .ret))))
theorem cf_slices_IndexFunc_L_int64 : chkFn Try.prog i_slices_IndexFunc_L_int64 ac_slices_IndexFunc_L_int64 [.tmp 4] 19 = true := by decide +kernel
def fa_slices_IndexFunc_L_int64 : FnA := ⟨ac_slices_IndexFunc_L_int64, [.tmp 4], 19, false, true, [], .any, none⟩

/-- The checked code of slices ContainsFunc   int64 int64 . -/
def ac_slices_ContainsFunc_L_int64 : AC := (.seq (.post (.reg [⟨(some 4), .op (.mv (.const (Value.bool false))), none⟩]) (.kill [4]))
  (.seq (.post (.reg [⟨(some 5), .op (.mv (.tmp 0)), none⟩,
    ⟨(some 6), .op (.mv (.tmp 1)), none⟩,
    ⟨(some 7), .call (.func i_slices_IndexFunc_L_int64) [(.tmp 5), (.tmp 6)], none⟩,
    ⟨(some 8), .op (.bin .geq (.tmp 7) (.const (Value.int .i64 0))), none⟩,
    ⟨(some 4), .op (.mv (.tmp 8)), none⟩]) (.kill [0, 1, 5, 6, 7, 8]))
  .ret))
theorem cf_slices_ContainsFunc_L_int64 : chkFn Try.prog i_slices_ContainsFunc_L_int64 ac_slices_ContainsFunc_L_int64 [.tmp 4] 9 = true := by decide +kernel
def fa_slices_ContainsFunc_L_int64 : FnA := ⟨ac_slices_ContainsFunc_L_int64, [.tmp 4], 9, false, true, [], .any, none⟩

/-- The checked code of impl size int64 . -/
def ac_impl_size_int64 : AC := (.seq (.post (.reg [⟨(some 2), .op (.mv (.const (Value.int .i64 0))), none⟩]) (.kill [2]))
  (.seq (.post (.reg [⟨(some 3), .op (.mv (.tmp 0)), none⟩,
    ⟨(some 4), .op (.len false (.tmp 3)), none⟩,
    ⟨(some 2), .op (.mv (.tmp 4)), none⟩]) (.kill [0, 3, 4]))
  .ret))
theorem cf_impl_size_int64 : chkFn Try.prog i_impl_size_int64 ac_impl_size_int64 [.tmp 2] 5 = true := by decide +kernel
def fa_impl_size_int64 : FnA := ⟨ac_impl_size_int64, [.tmp 2], 5, false, true, [], .any, none⟩

/-- The checked code of impl ValidAlgebra 1 1. -/
def ac_impl_ValidAlgebra_1_1 : AC := (.seq (.post (.reg [⟨(some 3), .op (.mv (.const (Value.bool false))), none⟩]) (.kill [3]))
  (.seq (.post (.reg [⟨(some 4), .op (.mv (.tmp 0)), none⟩,
    ⟨(some 5), .op (.load 1 false (.tmp 1)), none⟩,
    ⟨(some 6), .op (.bin .sub (.tmp 5) (.const (Value.int .i64 1))), none⟩,
    ⟨(some 7), .call (.func i_impl_within) [(.tmp 4), (.const (Value.int .i64 0)), (.tmp 6)], none⟩,
    ⟨(some 8), .op (.un .not (.tmp 7)), none⟩,
    ⟨(some 3), .op (.mv (.tmp 8)), none⟩]) (.kill [0, 1, 4, 5, 6, 7, 8]))
  .ret))
theorem cf_impl_ValidAlgebra_1_1 : chkFn Try.prog i_impl_ValidAlgebra_1_1 ac_impl_ValidAlgebra_1_1 [.tmp 3] 9 = true := by decide +kernel
def fa_impl_ValidAlgebra_1_1 : FnA := ⟨ac_impl_ValidAlgebra_1_1, [.tmp 3], 9, false, true, [], .any, none⟩

/-- The checked code of impl ValidAlgebra 1. -/
def ac_impl_ValidAlgebra_1 : AC := (.seq (.post (.reg [⟨(some 5), .op (.mv (.const (Value.bool false))), none⟩]) (.kill [5]))
  (.seq (.post (.reg [⟨(some 6), .op (.mv (.tmp 0)), none⟩,
    ⟨(some 7), .call (.func i_impl_size_int64) [(.tmp 6)], none⟩,
    ⟨(some 8), .op (.mv (.tmp 1)), none⟩,
    ⟨(some 9), .op (.bin .eql (.tmp 7) (.tmp 8)), none⟩,
    ⟨(some 10), .op (.mv (.tmp 9)), none⟩,
    ⟨(some 11), .op (.mv (.tmp 0)), some (10, true)⟩,
    ⟨(some 12), .op (.mkfn i_impl_ValidAlgebra_1_1 [(.tmp 2)]), some (10, true)⟩,
    ⟨(some 13), .call (.func i_slices_ContainsFunc_L_int64) [(.tmp 11), (.tmp 12)], some (10, true)⟩,
    ⟨(some 14), .op (.un .not (.tmp 13)), some (10, true)⟩,
    ⟨(some 15), .op (.pick (.tmp 10) (.tmp 14) (.const (Value.bool false))), none⟩,
    ⟨(some 5), .op (.mv (.tmp 15)), none⟩]) (.kill [0, 1, 2, 6, 7, 8, 9, 10, 11, 12, 13, 14, 15]))
  .ret))
theorem cf_impl_ValidAlgebra_1 : chkFn Try.prog i_impl_ValidAlgebra_1 ac_impl_ValidAlgebra_1 [.tmp 5] 16 = true := by decide +kernel
def fa_impl_ValidAlgebra_1 : FnA := ⟨ac_impl_ValidAlgebra_1, [.tmp 5], 16, false, true, [], .any, none⟩

/-- The checked code of impl ValidAlgebra 2. -/
def ac_impl_ValidAlgebra_2 : AC := (.seq (.post (.reg [⟨(some 4), .op (.mv (.const (Value.bool false))), none⟩]) (.kill [4]))
  (.seq (.post (.reg [⟨(some 5), .op (.load 1 false (.tmp 1)), none⟩,
    ⟨(some 6), .op (.mv (.tmp 0)), none⟩,
    ⟨(some 7), .op (.load 1 false (.tmp 2)), none⟩,
    ⟨(some 8), .call (.tmp 5) [(.tmp 6), (.tmp 7)], none⟩,
    ⟨(some 4), .op (.mv (.tmp 8)), none⟩]) (.kill [0, 1, 2, 5, 6, 7, 8]))
  .ret))
theorem cf_impl_ValidAlgebra_2 : chkFn Try.prog i_impl_ValidAlgebra_2 ac_impl_ValidAlgebra_2 [.tmp 4] 9 = true := by decide +kernel
def fa_impl_ValidAlgebra_2 : FnA := ⟨ac_impl_ValidAlgebra_2, [.tmp 4], 9, false, true, [], .any, none⟩

/-- The checked code of slices Grow     int64   int64 . -/
def ac_slices_Grow_L_L_int64 : AC := (.seq (.post (.reg [⟨(some 4), .op (.mv (.const (Value.slice none 0 0))), none⟩]) (.kill [4]))
  (.seq (.seq (.post (.reg [⟨(some 5), .op (.mv (.tmp 1)), none⟩,
    ⟨(some 6), .op (.bin .lss (.tmp 5) (.const (Value.int .i64 0))), none⟩]) (.kill [5]))
  (.cond (.tmp 6) (.ghost (.kill [6]) (.post (.reg [⟨(some 7), .op (.bad), none⟩,
    ⟨none, .op (.bad), none⟩]) (.kill [7])))
  (.ghost (.kill [6]) .skip)))
  (.seq (.seq (.post (.reg [⟨(some 8), .op (.mv (.tmp 1)), none⟩,
    ⟨(some 9), .op (.mv (.tmp 0)), none⟩,
    ⟨(some 10), .op (.cap (.tmp 9)), none⟩,
    ⟨(some 11), .op (.mv (.tmp 0)), none⟩,
    ⟨(some 12), .op (.len false (.tmp 11)), none⟩,
    ⟨(some 13), .op (.bin .sub (.tmp 10) (.tmp 12)), none⟩,
    ⟨(some 14), .op (.bin .sub (.tmp 8) (.tmp 13)), none⟩,
    ⟨(some 1), .op (.mv (.tmp 14)), none⟩]) (.kill [8, 9, 10, 11, 12, 13, 14]))
  (.seq (.post (.reg [⟨(some 15), .op (.mv (.tmp 1)), none⟩,
    ⟨(some 16), .op (.bin .gtr (.tmp 15) (.const (Value.int .i64 0))), none⟩]) (.kill [15]))
  (.cond (.tmp 16) (.ghost (.kill [16]) (.post (.post (.reg [⟨(some 17), .op (.mv (.tmp 0)), none⟩,
    ⟨(some 18), .op (.mv (.tmp 0)), none⟩,
    ⟨(some 19), .op (.cap (.tmp 18)), none⟩,
    ⟨(some 20), .op (.slcS (.tmp 17) none (some (.tmp 19)) none 1), none⟩,
    ⟨(some 21), .op (.mv (.tmp 1)), none⟩,
    ⟨(some 22), .op (.appz (.tmp 20) (.tmp 21) 1 24), none⟩,
    ⟨(some 23), .op (.mv (.tmp 0)), none⟩,
    ⟨(some 24), .op (.len false (.tmp 23)), none⟩,
    ⟨(some 25), .op (.slcS (.tmp 22) none (some (.tmp 24)) none 1), none⟩,
    ⟨(some 0), .op (.mv (.tmp 25)), none⟩]) (.kill [1, 17, 18, 19, 20, 21, 22, 23, 24, 25])) .nv))
  (.ghost (.kill [1, 16]) .skip))))
  (.seq (.post (.reg [⟨(some 26), .op (.mv (.tmp 0)), none⟩,
    ⟨(some 4), .op (.mv (.tmp 26)), none⟩]) (.kill [0, 26]))
  .ret))))
theorem cf_slices_Grow_L_L_int64 : chkFn Try.prog i_slices_Grow_L_L_int64 ac_slices_Grow_L_L_int64 [.tmp 4] 27 = true := by decide +kernel
def fa_slices_Grow_L_L_int64 : FnA := ⟨ac_slices_Grow_L_L_int64, [.tmp 4], 27, false, false, [], .any, none⟩

/-- The checked code of slices Concat     int64   int64 . -/
def lb_slices_Concat_L_L_int64_0 : AC := (.post (.seq (.reg [⟨(some 12), .op (.bin .lss (.tmp 11) (.tmp 10)), none⟩])
  (.seq (.cond (.tmp 12) (.ghost (.kill [12]) .skip)
  (.ghost (.kill [9, 10, 11, 12]) (.exit 0)))
  (.seq (.block 1 (.seq (.post (.reg [⟨(some 13), .op (.iaddrS (.tmp 9) (.tmp 11) 1), none⟩,
    ⟨(some 14), .op (.load 1 false (.tmp 13)), none⟩,
    ⟨(some 5), .op (.mv (.tmp 14)), none⟩]) (.kill [13, 14]))
  (.seq (.post (.reg [⟨(some 15), .op (.mv (.tmp 3)), none⟩,
    ⟨(some 16), .op (.mv (.tmp 5)), none⟩,
    ⟨(some 17), .op (.len false (.tmp 16)), none⟩,
    ⟨(some 18), .op (.bin .add (.tmp 15) (.tmp 17)), none⟩,
    ⟨(some 3), .op (.mv (.tmp 18)), none⟩]) (.kill [5, 15, 16, 17, 18]))
  (.seq (.post (.reg [⟨(some 19), .op (.mv (.tmp 3)), none⟩,
    ⟨(some 20), .op (.bin .lss (.tmp 19) (.const (Value.int .i64 0))), none⟩]) (.kill [19]))
  (.cond (.tmp 20) (.ghost (.kill [20]) (.post (.reg [⟨(some 21), .op (.bad), none⟩,
    ⟨none, .op (.bad), none⟩]) (.kill [21])))
  (.ghost (.kill [20]) .skip))))))
  (.post (.reg [⟨(some 22), .op (.bin .add (.tmp 11) (.const (Value.int .i64 1))), none⟩,
    ⟨(some 11), .op (.mv (.tmp 22)), none⟩]) (.kill [22]))))) .nv)
def lo_slices_Concat_L_L_int64_0 : AC := (.loop lb_slices_Concat_L_L_int64_0)
def lb_slices_Concat_L_L_int64_1 : AC := (.post (.seq (.reg [⟨(some 28), .op (.bin .lss (.tmp 27) (.tmp 26)), none⟩])
  (.seq (.cond (.tmp 28) (.ghost (.kill [28]) .skip)
  (.ghost (.kill [25, 26, 27, 28]) (.exit 2)))
  (.seq (.block 3 (.seq (.post (.reg [⟨(some 29), .op (.iaddrS (.tmp 25) (.tmp 27) 1), none⟩,
    ⟨(some 30), .op (.load 1 false (.tmp 29)), none⟩,
    ⟨(some 8), .op (.mv (.tmp 30)), none⟩]) (.kill [29, 30]))
  (.post (.post (.reg [⟨(some 31), .op (.mv (.tmp 6)), none⟩,
    ⟨(some 32), .op (.mv (.tmp 8)), none⟩,
    ⟨(some 33), .op (.append (.tmp 31) (.tmp 32) 1 24), none⟩,
    ⟨(some 6), .op (.mv (.tmp 33)), none⟩]) (.kill [8, 31, 32, 33])) .nv)))
  (.post (.reg [⟨(some 34), .op (.bin .add (.tmp 27) (.const (Value.int .i64 1))), none⟩,
    ⟨(some 27), .op (.mv (.tmp 34)), none⟩]) (.kill [34]))))) .nv)
def lo_slices_Concat_L_L_int64_1 : AC := (.loop lb_slices_Concat_L_L_int64_1)
def ac_slices_Concat_L_L_int64 : AC := (.seq (.post (.reg [⟨(some 2), .op (.mv (.const (Value.slice none 0 0))), none⟩]) (.kill [2]))
  (.seq (.reg [⟨(some 3), .op (.mv (.const (Value.int .i64 0))), none⟩])
  (.seq (.seq (.reg [⟨(some 9), .op (.mv (.tmp 0)), none⟩,
    ⟨(some 10), .op (.len false (.tmp 9)), none⟩,
    ⟨(some 11), .op (.mv (.const (Value.int .i64 0))), none⟩])
  (.post (.block 0 (.ghost .nv lo_slices_Concat_L_L_int64_0)) .nv))
  (.ghost (.kill [9, 10, 11]) (.seq (.post (.reg [⟨(some 23), .op (.mv (.tmp 3)), none⟩,
    ⟨(some 24), .call (.func i_slices_Grow_L_L_int64) [(.const (Value.slice none 0 0)), (.tmp 23)], none⟩,
    ⟨(some 6), .op (.mv (.tmp 24)), none⟩]) (.kill [3, 23, 24]))
  (.seq (.seq (.post (.reg [⟨(some 25), .op (.mv (.tmp 0)), none⟩,
    ⟨(some 26), .op (.len false (.tmp 25)), none⟩,
    ⟨(some 27), .op (.mv (.const (Value.int .i64 0))), none⟩]) (.kill [0]))
  (.post (.block 2 (.ghost (.ow 6 none 1) (.ghost .nv lo_slices_Concat_L_L_int64_1))) .nv))
  (.ghost (.kill [25, 26, 27]) (.seq (.post (.reg [⟨(some 35), .op (.mv (.tmp 6)), none⟩,
    ⟨(some 2), .op (.mv (.tmp 35)), none⟩]) (.kill [6, 35]))
  .ret))))))))
theorem cf_slices_Concat_L_L_int64 : chkFn Try.prog i_slices_Concat_L_L_int64 ac_slices_Concat_L_L_int64 [.tmp 2] 36 = true := by decide +kernel
def fa_slices_Concat_L_L_int64 : FnA := ⟨ac_slices_Concat_L_L_int64, [.tmp 2], 36, false, true, [], .any, none⟩

/-- The checked code of impl Algebra  apart. -/
def lb_impl_Algebra_apart_0 : AC := (.post (.seq (.reg [⟨(some 20), .op (.bin .lss (.tmp 19) (.tmp 18)), none⟩])
  (.seq (.cond (.tmp 20) (.ghost (.kill [20]) .skip)
  (.ghost (.kill [6, 18, 19, 20]) (.exit 4)))
  (.seq (.block 5 (.seq (.post (.reg [⟨(some 21), .op (.mv (.tmp 19)), none⟩,
    ⟨(some 7), .op (.mv (.tmp 21)), none⟩]) (.kill [21]))
  (.seq (.post (.draw [⟨0, ⟨(some 22), .op (.faddr (.tmp 1) 0), none⟩, []⟩,
    ⟨1, ⟨(some 23), .op (.load 1 false (.tmp 22)), none⟩, []⟩,
    ⟨2, ⟨(some 24), .op (.faddr (.tmp 1) 0), none⟩, []⟩,
    ⟨3, ⟨(some 25), .op (.load 1 false (.tmp 24)), none⟩, []⟩,
    ⟨4, ⟨(some 26), .op (.mv (.tmp 5)), none⟩, []⟩,
    ⟨5, ⟨(some 27), .op (.iaddrS (.tmp 25) (.tmp 26) 1), none⟩, []⟩,
    ⟨6, ⟨(some 28), .op (.load 1 false (.tmp 27)), none⟩, []⟩,
    ⟨7, ⟨(some 29), .op (.mv (.tmp 6)), none⟩, []⟩,
    ⟨8, ⟨(some 30), .op (.iaddrS (.tmp 28) (.tmp 29) 1), none⟩, []⟩,
    ⟨9, ⟨(some 31), .op (.load 1 false (.tmp 30)), none⟩, []⟩,
    ⟨10, ⟨(some 32), .op (.iaddrS (.tmp 23) (.tmp 31) 1), none⟩, []⟩,
    ⟨11, ⟨(some 33), .op (.load 1 false (.tmp 32)), none⟩, []⟩,
    ⟨12, ⟨(some 34), .op (.mv (.tmp 7)), none⟩, []⟩,
    ⟨13, ⟨(some 35), .op (.iaddrS (.tmp 33) (.tmp 34) 1), none⟩, []⟩,
    ⟨14, ⟨(some 36), .op (.load 1 false (.tmp 35)), none⟩, []⟩,
    ⟨15, ⟨(some 37), .op (.faddr (.tmp 1) 0), none⟩, []⟩,
    ⟨16, ⟨(some 38), .op (.load 1 false (.tmp 37)), none⟩, []⟩,
    ⟨17, ⟨(some 39), .op (.mv (.tmp 5)), none⟩, []⟩,
    ⟨18, ⟨(some 40), .op (.iaddrS (.tmp 38) (.tmp 39) 1), none⟩, []⟩,
    ⟨19, ⟨(some 41), .op (.load 1 false (.tmp 40)), none⟩, []⟩,
    ⟨20, ⟨(some 42), .op (.faddr (.tmp 1) 0), none⟩, []⟩,
    ⟨21, ⟨(some 43), .op (.load 1 false (.tmp 42)), none⟩, []⟩,
    ⟨22, ⟨(some 44), .op (.mv (.tmp 6)), none⟩, []⟩,
    ⟨23, ⟨(some 45), .op (.iaddrS (.tmp 43) (.tmp 44) 1), none⟩, []⟩,
    ⟨24, ⟨(some 46), .op (.load 1 false (.tmp 45)), none⟩, []⟩,
    ⟨25, ⟨(some 47), .op (.mv (.tmp 7)), none⟩, []⟩,
    ⟨26, ⟨(some 48), .op (.iaddrS (.tmp 46) (.tmp 47) 1), none⟩, []⟩,
    ⟨27, ⟨(some 49), .op (.load 1 false (.tmp 48)), none⟩, []⟩,
    ⟨28, ⟨(some 50), .op (.iaddrS (.tmp 41) (.tmp 49) 1), none⟩, []⟩,
    ⟨29, ⟨(some 51), .op (.load 1 false (.tmp 50)), none⟩, []⟩,
    ⟨30, ⟨(some 52), .op (.bin .neq (.tmp 36) (.tmp 51)), none⟩, []⟩]
    [0, 1, 0, 4, 0, 28, 60, 0, 252, 508, 1023, 2047, 0, 8191, 16383, 0, 32768, 0, 229376, 491520, 0, 1048576, 0, 7340032, 15728640, 0, 66060288, 133169152, 268402688, 536838144, 1073741823]) (.kill [22, 23, 24, 25, 26, 27, 28, 29, 30, 31, 32, 33, 34, 35, 36, 37, 38, 39, 40, 41, 42, 43, 44, 45, 46, 47, 48, 49, 50, 51]))
  (.cond (.tmp 52) (.ghost (.kill [1, 4, 10, 11, 14, 15, 18, 19, 52]) (.seq (.post (.reg [⟨(some 53), .op (.mv (.tmp 5)), none⟩,
    ⟨(some 54), .op (.mv (.tmp 6)), none⟩,
    ⟨(some 55), .op (.mv (.tmp 7)), none⟩,
    ⟨(some 56), .op (.build [Value.int .i64 0, Value.int .i64 0, Value.int .i64 0] [(0, 1, (.tmp 53)), (1, 1, (.tmp 54)), (2, 1, (.tmp 55))]), none⟩,
    ⟨none, .op (.store 3 (.tmp 2) (.tmp 56)), none⟩,
    ⟨(some 3), .op (.mv (.const (Value.bool true))), none⟩]) (.kill [5, 6, 7, 53, 54, 55, 56]))
  .ret))
  (.ghost (.kill [7, 52]) .skip)))))
  (.post (.reg [⟨(some 57), .op (.bin .add (.tmp 19) (.const (Value.int .i64 1))), none⟩,
    ⟨(some 19), .op (.mv (.tmp 57)), none⟩]) (.kill [57]))))) .nv)
def lo_impl_Algebra_apart_0 : AC := (.loop lb_impl_Algebra_apart_0)
def lb_impl_Algebra_apart_1 : AC := (.post (.seq (.reg [⟨(some 16), .op (.bin .lss (.tmp 15) (.tmp 14)), none⟩])
  (.seq (.cond (.tmp 16) (.ghost (.kill [16]) .skip)
  (.ghost (.kill [5, 14, 15, 16]) (.exit 2)))
  (.seq (.block 3 (.seq (.post (.reg [⟨(some 17), .op (.mv (.tmp 15)), none⟩,
    ⟨(some 6), .op (.mv (.tmp 17)), none⟩]) (.kill [17]))
  (.seq (.reg [⟨(some 18), .op (.mv (.tmp 4)), none⟩,
    ⟨(some 19), .op (.mv (.const (Value.int .i64 0))), none⟩])
  (.post (.block 4 (.ghost .nv lo_impl_Algebra_apart_0)) .nv))))
  (.ghost (.kill [6, 18, 19]) (.post (.reg [⟨(some 58), .op (.bin .add (.tmp 15) (.const (Value.int .i64 1))), none⟩,
    ⟨(some 15), .op (.mv (.tmp 58)), none⟩]) (.kill [58])))))) .nv)
def lo_impl_Algebra_apart_1 : AC := (.loop lb_impl_Algebra_apart_1)
def lb_impl_Algebra_apart_2 : AC := (.post (.seq (.reg [⟨(some 12), .op (.bin .lss (.tmp 11) (.tmp 10)), none⟩])
  (.seq (.cond (.tmp 12) (.ghost (.kill [12]) .skip)
  (.ghost (.kill [1, 4, 10, 11, 12]) (.exit 0)))
  (.seq (.block 1 (.seq (.post (.reg [⟨(some 13), .op (.mv (.tmp 11)), none⟩,
    ⟨(some 5), .op (.mv (.tmp 13)), none⟩]) (.kill [13]))
  (.seq (.reg [⟨(some 14), .op (.mv (.tmp 4)), none⟩,
    ⟨(some 15), .op (.mv (.const (Value.int .i64 0))), none⟩])
  (.post (.block 2 (.ghost .nv lo_impl_Algebra_apart_1)) .nv))))
  (.ghost (.kill [5, 14, 15]) (.post (.reg [⟨(some 59), .op (.bin .add (.tmp 11) (.const (Value.int .i64 1))), none⟩,
    ⟨(some 11), .op (.mv (.tmp 59)), none⟩]) (.kill [59])))))) .nv)
def lo_impl_Algebra_apart_2 : AC := (.loop lb_impl_Algebra_apart_2)
def ac_impl_Algebra_apart : AC := (.seq (.post (.reg [⟨(some 1), .op (.box true (.tmp 0)), none⟩,
    ⟨(some 2), .op (.alloc (Value.agg #[Value.int .i64 0, Value.int .i64 0, Value.int .i64 0])), none⟩,
    ⟨(some 3), .op (.mv (.const (Value.bool false))), none⟩]) (.kill [0, 3]))
  (.seq (.post (.reg [⟨(some 8), .op (.load 4 true (.tmp 1)), none⟩,
    ⟨(some 9), .call (.func i_impl_Algebra_elements) [(.tmp 8)], none⟩,
    ⟨(some 4), .op (.mv (.tmp 9)), none⟩]) (.kill [8, 9]))
  (.seq (.seq (.reg [⟨(some 10), .op (.mv (.tmp 4)), none⟩,
    ⟨(some 11), .op (.mv (.const (Value.int .i64 0))), none⟩])
  (.post (.block 0 (.ghost .nv lo_impl_Algebra_apart_2)) .nv))
  (.ghost (.kill [1, 4, 10, 11]) (.seq (.post (.reg [⟨(some 60), .op (.build [Value.int .i64 0, Value.int .i64 0, Value.int .i64 0] []), none⟩,
    ⟨none, .op (.store 3 (.tmp 2) (.tmp 60)), none⟩,
    ⟨(some 3), .op (.mv (.const (Value.bool false))), none⟩]) (.kill [60]))
  .ret)))))
theorem cf_impl_Algebra_apart : chkFn Try.prog i_impl_Algebra_apart ac_impl_Algebra_apart [.cell 2 3 true, .tmp 3] 61 = true := by decide +kernel
def fa_impl_Algebra_apart : FnA := ⟨ac_impl_Algebra_apart, [.cell 2 3 true, .tmp 3], 61, false, true, [], .any, none⟩

/-- The checked code of impl ValidAlgebra. -/
def lb_impl_ValidAlgebra_0 : AC := (.post (.seq (.reg [⟨(some 46), .op (.bin .lss (.tmp 45) (.tmp 44)), none⟩])
  (.seq (.cond (.tmp 46) (.ghost (.kill [46]) .skip)
  (.ghost (.kill [5, 43, 44, 45, 46]) (.exit 0)))
  (.seq (.block 1 (.seq (.post (.reg [⟨(some 47), .op (.iaddrS (.tmp 43) (.tmp 45) 1), none⟩,
    ⟨(some 48), .op (.load 1 false (.tmp 47)), none⟩,
    ⟨(some 7), .op (.mv (.tmp 48)), none⟩]) (.kill [47, 48]))
  (.seq (.post (.reg [⟨(some 49), .op (.mv (.tmp 5)), none⟩,
    ⟨(some 50), .op (.mv (.tmp 7)), none⟩,
    ⟨(some 51), .call (.tmp 49) [(.tmp 50)], none⟩,
    ⟨(some 52), .op (.un .not (.tmp 51)), none⟩]) (.kill [7, 49, 50, 51]))
  (.cond (.tmp 52) (.ghost (.kill [1, 3, 5, 43, 44, 45, 52]) (.seq (.reg [⟨(some 2), .op (.mv (.const (Value.bool false))), none⟩])
  .ret))
  (.ghost (.kill [52]) .skip)))))
  (.post (.reg [⟨(some 53), .op (.bin .add (.tmp 45) (.const (Value.int .i64 1))), none⟩,
    ⟨(some 45), .op (.mv (.tmp 53)), none⟩]) (.kill [53]))))) .nv)
def lo_impl_ValidAlgebra_0 : AC := (.loop lb_impl_ValidAlgebra_0)
def lb_impl_ValidAlgebra_1 : AC := (.post (.seq (.reg [⟨(some 56), .op (.bin .lss (.tmp 55) (.tmp 54)), none⟩])
  (.seq (.cond (.tmp 56) (.ghost (.kill [56]) .skip)
  (.ghost (.kill [54, 55, 56]) (.exit 2)))
  (.seq (.block 3 (.seq (.post (.reg [⟨(some 57), .op (.mv (.tmp 55)), none⟩,
    ⟨(some 8), .op (.mv (.tmp 57)), none⟩]) (.kill [57]))
  (.seq (.post (.reg [⟨(some 58), .op (.faddr (.tmp 1) 0), none⟩,
    ⟨(some 59), .op (.load 1 false (.tmp 58)), none⟩,
    ⟨(some 60), .op (.iaddrS (.tmp 59) (.const (Value.int .i64 0)) 1), none⟩,
    ⟨(some 61), .op (.load 1 false (.tmp 60)), none⟩,
    ⟨(some 62), .op (.mv (.tmp 8)), none⟩,
    ⟨(some 63), .op (.iaddrS (.tmp 61) (.tmp 62) 1), none⟩,
    ⟨(some 64), .op (.load 1 false (.tmp 63)), none⟩,
    ⟨(some 65), .op (.mv (.tmp 8)), none⟩,
    ⟨(some 66), .op (.bin .neq (.tmp 64) (.tmp 65)), none⟩,
    ⟨(some 67), .op (.mv (.tmp 66)), none⟩,
    ⟨(some 68), .op (.faddr (.tmp 1) 0), some (67, false)⟩,
    ⟨(some 69), .op (.load 1 false (.tmp 68)), some (67, false)⟩,
    ⟨(some 70), .op (.mv (.tmp 8)), some (67, false)⟩,
    ⟨(some 71), .op (.iaddrS (.tmp 69) (.tmp 70) 1), some (67, false)⟩,
    ⟨(some 72), .op (.load 1 false (.tmp 71)), some (67, false)⟩,
    ⟨(some 73), .op (.iaddrS (.tmp 72) (.const (Value.int .i64 0)) 1), some (67, false)⟩,
    ⟨(some 74), .op (.load 1 false (.tmp 73)), some (67, false)⟩,
    ⟨(some 75), .op (.mv (.tmp 8)), some (67, false)⟩,
    ⟨(some 76), .op (.bin .neq (.tmp 74) (.tmp 75)), some (67, false)⟩,
    ⟨(some 77), .op (.pick (.tmp 67) (.const (Value.bool true)) (.tmp 76)), none⟩]) (.kill [8, 58, 59, 60, 61, 62, 63, 64, 65, 66, 67, 68, 69, 70, 71, 72, 73, 74, 75, 76]))
  (.cond (.tmp 77) (.ghost (.kill [1, 54, 55, 77]) (.seq (.reg [⟨(some 2), .op (.mv (.const (Value.bool false))), none⟩])
  .ret))
  (.ghost (.kill [77]) .skip)))))
  (.post (.reg [⟨(some 78), .op (.bin .add (.tmp 55) (.const (Value.int .i64 1))), none⟩,
    ⟨(some 55), .op (.mv (.tmp 78)), none⟩]) (.kill [78]))))) .nv)
def lo_impl_ValidAlgebra_1 : AC := (.loop lb_impl_ValidAlgebra_1)
def ac_impl_ValidAlgebra : AC := (.seq (.post (.reg [⟨(some 1), .op (.box true (.tmp 0)), none⟩,
    ⟨(some 2), .op (.mv (.const (Value.bool false))), none⟩]) (.kill [0, 2]))
  (.seq (.post (.reg [⟨(some 11), .op (.load 4 true (.tmp 1)), none⟩,
    ⟨(some 12), .call (.func i_impl_Algebra_elements) [(.tmp 11)], none⟩,
    ⟨(some 3), .op (.alloc (Value.int .i64 0)), none⟩,
    ⟨none, .op (.store 1 (.tmp 3) (.tmp 12)), none⟩]) (.kill [11, 12]))
  (.seq (.post (.reg [⟨(some 13), .op (.mkfn i_impl_ValidAlgebra_1 [(.tmp 3)]), none⟩,
    ⟨(some 4), .op (.alloc (Value.nilFunc)), none⟩,
    ⟨none, .op (.store 1 (.tmp 4) (.tmp 13)), none⟩]) (.kill [13]))
  (.seq (.post (.reg [⟨(some 14), .op (.mkfn i_impl_ValidAlgebra_2 [(.tmp 4), (.tmp 3)]), none⟩,
    ⟨(some 5), .op (.mv (.tmp 14)), none⟩]) (.kill [14]))
  (.seq (.seq (.post (.draw [⟨0, ⟨(some 15), .op (.load 1 false (.tmp 3)), none⟩, []⟩,
    ⟨1, ⟨(some 16), .call (.func i_impl_within) [(.tmp 15), (.const (Value.int .i64 1)), (.const (Value.int .i64 40))], none⟩, []⟩,
    ⟨2, ⟨(some 17), .op (.un .not (.tmp 16)), none⟩, []⟩,
    ⟨3, ⟨(some 18), .op (.mv (.tmp 17)), none⟩, []⟩,
    ⟨4, ⟨(some 19), .op (.faddr (.tmp 1) 0), some (18, false)⟩, []⟩,
    ⟨5, ⟨(some 20), .op (.load 1 false (.tmp 19)), some (18, false)⟩, []⟩,
    ⟨7, ⟨(some 22), .op (.load 1 false (.tmp 3)), some (18, false)⟩, []⟩,
    ⟨6, ⟨(some 21), .call (.func i_impl_size_L_int64) [(.tmp 20)], some (18, false)⟩, [7]⟩,
    ⟨8, ⟨(some 23), .op (.bin .neq (.tmp 21) (.tmp 22)), some (18, false)⟩, []⟩,
    ⟨9, ⟨(some 24), .op (.pick (.tmp 18) (.const (Value.bool true)) (.tmp 23)), none⟩, []⟩,
    ⟨10, ⟨(some 25), .op (.mv (.tmp 24)), none⟩, []⟩,
    ⟨11, ⟨(some 26), .op (.faddr (.tmp 1) 1), some (25, false)⟩, []⟩,
    ⟨12, ⟨(some 27), .op (.load 1 false (.tmp 26)), some (25, false)⟩, []⟩,
    ⟨13, ⟨(some 28), .op (.len false (.tmp 27)), some (25, false)⟩, []⟩,
    ⟨14, ⟨(some 29), .op (.bin .neq (.tmp 28) (.const (Value.int .i64 4))), some (25, false)⟩, []⟩,
    ⟨15, ⟨(some 30), .op (.pick (.tmp 25) (.const (Value.bool true)) (.tmp 29)), none⟩, []⟩,
    ⟨16, ⟨(some 31), .op (.mv (.tmp 30)), none⟩, []⟩,
    ⟨17, ⟨(some 32), .op (.load 1 false (.tmp 4)), some (31, false)⟩, []⟩,
    ⟨18, ⟨(some 33), .op (.faddr (.tmp 1) 2), some (31, false)⟩, []⟩,
    ⟨19, ⟨(some 34), .op (.load 1 false (.tmp 33)), some (31, false)⟩, []⟩,
    ⟨20, ⟨(some 35), .call (.tmp 32) [(.tmp 34), (.const (Value.int .i64 2))], some (31, false)⟩, []⟩,
    ⟨21, ⟨(some 36), .op (.un .not (.tmp 35)), some (31, false)⟩, []⟩,
    ⟨22, ⟨(some 37), .op (.pick (.tmp 31) (.const (Value.bool true)) (.tmp 36)), none⟩, []⟩]
    [0, 1, 3, 7, 15, 31, 63, 15, 255, 511, 1023, 2047, 4095, 8191, 16383, 32767, 65535, 131071, 131071, 393215, 1048575, 2097151, 4194303]) (.kill [4, 15, 16, 17, 18, 19, 20, 21, 22, 23, 24, 25, 26, 27, 28, 29, 30, 31, 32, 33, 34, 35, 36]))
  (.cond (.tmp 37) (.ghost (.kill [1, 3, 5, 37]) (.seq (.reg [⟨(some 2), .op (.mv (.const (Value.bool false))), none⟩])
  .ret))
  (.ghost (.kill [37]) .skip)))
  (.seq (.seq (.post (.reg [⟨(some 38), .op (.faddr (.tmp 1) 0), none⟩,
    ⟨(some 39), .op (.load 1 false (.tmp 38)), none⟩,
    ⟨(some 40), .op (.faddr (.tmp 1) 1), none⟩,
    ⟨(some 41), .op (.load 1 false (.tmp 40)), none⟩,
    ⟨(some 42), .op (.lits true 1 2 (Value.slice none 0 0) [(0, (.tmp 39)), (1, (.tmp 41))]), none⟩,
    ⟨(some 43), .call (.func i_slices_Concat_L_L_int64) [(.tmp 42)], none⟩,
    ⟨(some 44), .op (.len false (.tmp 43)), none⟩,
    ⟨(some 45), .op (.mv (.const (Value.int .i64 0))), none⟩]) (.kill [38, 39, 40, 41, 42]))
  (.post (.block 0 (.ghost .nv lo_impl_ValidAlgebra_0)) .nv))
  (.ghost (.kill [5, 43, 44, 45]) (.seq (.seq (.post (.reg [⟨(some 54), .op (.load 1 false (.tmp 3)), none⟩,
    ⟨(some 55), .op (.mv (.const (Value.int .i64 0))), none⟩]) (.kill [3]))
  (.post (.block 2 (.ghost .nv lo_impl_ValidAlgebra_1)) .nv))
  (.ghost (.kill [54, 55]) (.seq (.post (.reg [⟨(some 80), .op (.load 4 true (.tmp 1)), none⟩,
    ⟨(some 81), .call (.func i_impl_Algebra_apart) [(.tmp 80)], none⟩,
    ⟨(some 79), .op (.mv (.tmp 81)), none⟩,
    ⟨(some 82), .op (.ext (.tmp 79) 0), none⟩,
    ⟨(some 83), .op (.ext (.tmp 79) 1), none⟩,
    ⟨(some 9), .op (.alloc (Value.agg #[Value.int .i64 0, Value.int .i64 0, Value.int .i64 0])), none⟩,
    ⟨none, .op (.store 3 (.tmp 9) (.tmp 82)), none⟩,
    ⟨(some 10), .op (.mv (.tmp 83)), none⟩]) (.kill [1, 9, 79, 80, 81, 82, 83]))
  (.seq (.post (.reg [⟨(some 84), .op (.mv (.tmp 10)), none⟩,
    ⟨(some 85), .op (.un .not (.tmp 84)), none⟩,
    ⟨(some 2), .op (.mv (.tmp 85)), none⟩]) (.kill [10, 84, 85]))
  .ret)))))))))))
theorem cf_impl_ValidAlgebra : chkFn Try.prog i_impl_ValidAlgebra ac_impl_ValidAlgebra [.tmp 2] 86 = true := by decide +kernel
def fa_impl_ValidAlgebra : FnA := ⟨ac_impl_ValidAlgebra, [.tmp 2], 86, false, true, [], .any, none⟩

/-- The checked code of impl built. -/
def lb_impl_built_0 : AC := (.seq (.reg [⟨(some 40), .op (.bin .lss (.tmp 39) (.tmp 38)), none⟩])
  (.seq (.cond (.tmp 40) (.ghost (.kill [40]) .skip)
  (.ghost (.kill [38, 39, 40]) (.exit 4)))
  (.seq (.block 5 (.seq (.post (.reg [⟨(some 41), .op (.mv (.tmp 39)), none⟩,
    ⟨(some 22), .op (.mv (.tmp 41)), none⟩]) (.kill [41]))
  (.post (.reg [⟨(some 42), .op (.mv (.tmp 21)), none⟩,
    ⟨(some 43), .op (.mv (.tmp 5)), none⟩,
    ⟨(some 44), .op (.mv (.tmp 16)), none⟩,
    ⟨(some 45), .op (.mv (.tmp 20)), none⟩,
    ⟨(some 46), .op (.mv (.tmp 22)), none⟩,
    ⟨(some 47), .call (.tmp 43) [(.tmp 44), (.tmp 45), (.tmp 46)], none⟩,
    ⟨(some 48), .op (.lits true 1 1 (Value.int .i64 0) [(0, (.tmp 47))]), none⟩,
    ⟨(some 49), .op (.append (.tmp 42) (.tmp 48) 1 8), none⟩,
    ⟨(some 21), .op (.mv (.tmp 49)), none⟩]) (.kill [22, 42, 43, 44, 45, 46, 47, 48, 49]))))
  (.post (.reg [⟨(some 50), .op (.bin .add (.tmp 39) (.const (Value.int .i64 1))), none⟩,
    ⟨(some 39), .op (.mv (.tmp 50)), none⟩]) (.kill [50])))))
def lo_impl_built_0 : AC := (.loop lb_impl_built_0)
def lb_impl_built_1 : AC := (.seq (.reg [⟨(some 34), .op (.bin .lss (.tmp 33) (.const (Value.int .i64 2))), none⟩])
  (.seq (.cond (.tmp 34) (.ghost (.kill [34]) .skip)
  (.ghost (.kill [33, 34]) (.exit 2)))
  (.seq (.block 3 (.seq (.post (.reg [⟨(some 35), .op (.mv (.tmp 33)), none⟩,
    ⟨(some 20), .op (.mv (.tmp 35)), none⟩]) (.kill [35]))
  (.seq (.post (.reg [⟨(some 36), .op (.lits true 1 0 (Value.int .i64 0) []), none⟩,
    ⟨(some 21), .op (.mv (.tmp 36)), none⟩]) (.kill [36]))
  (.seq (.seq (.post (.reg [⟨(some 37), .op (.mv (.tmp 1)), none⟩,
    ⟨(some 38), .op (.bin .add (.tmp 37) (.const (Value.int .i64 1))), none⟩,
    ⟨(some 39), .op (.mv (.const (Value.int .i64 0))), none⟩]) (.kill [37]))
  (.block 4 (.ghost (.ow 15 (some 2) 1) (.ghost (.ow 15 (some 3) 1) (.ghost (.ow 15 (some 4) 1) (.ghost (.ow 15 (some 5) 1) (.ghost (.ow 17 none 2) (.ghost (.ow 18 none 1) (.ghost (.ow 19 none 1) (.ghost (.ow 21 none 1) lo_impl_built_0))))))))))
  (.ghost (.kill [38, 39]) (.post (.reg [⟨(some 51), .op (.mv (.tmp 17)), none⟩,
    ⟨(some 52), .op (.mv (.tmp 4)), none⟩,
    ⟨(some 53), .op (.mv (.tmp 16)), none⟩,
    ⟨(some 54), .op (.mv (.tmp 20)), none⟩,
    ⟨(some 55), .call (.tmp 52) [(.tmp 53), (.tmp 54)], none⟩,
    ⟨(some 56), .op (.lits true 2 1 (Value.agg #[Value.int .i64 0, Value.int .i64 0]) [(0, (.tmp 55))]), none⟩,
    ⟨(some 57), .op (.append (.tmp 51) (.tmp 56) 2 16), none⟩,
    ⟨(some 58), .op (.mv (.tmp 18)), none⟩,
    ⟨(some 59), .op (.mv (.tmp 21)), none⟩,
    ⟨(some 60), .op (.lits true 1 1 (Value.slice none 0 0) [(0, (.tmp 59))]), none⟩,
    ⟨(some 61), .op (.append (.tmp 58) (.tmp 60) 1 24), none⟩,
    ⟨(some 62), .op (.mv (.tmp 19)), none⟩,
    ⟨(some 63), .op (.mv (.tmp 6)), none⟩,
    ⟨(some 64), .op (.mv (.tmp 16)), none⟩,
    ⟨(some 65), .op (.mv (.tmp 20)), none⟩,
    ⟨(some 66), .call (.tmp 63) [(.tmp 64), (.tmp 65)], none⟩,
    ⟨(some 67), .op (.lits true 1 1 (Value.int .i64 0) [(0, (.tmp 66))]), none⟩,
    ⟨(some 68), .op (.append (.tmp 62) (.tmp 67) 1 8), none⟩,
    ⟨(some 17), .op (.mv (.tmp 57)), none⟩,
    ⟨(some 18), .op (.mv (.tmp 61)), none⟩,
    ⟨(some 19), .op (.mv (.tmp 68)), none⟩]) (.kill [20, 21, 51, 52, 53, 54, 55, 56, 57, 58, 59, 60, 61, 62, 63, 64, 65, 66, 67, 68])))))))
  (.post (.reg [⟨(some 69), .op (.bin .add (.tmp 33) (.const (Value.int .i64 1))), none⟩,
    ⟨(some 33), .op (.mv (.tmp 69)), none⟩]) (.kill [69])))))
def lo_impl_built_1 : AC := (.loop lb_impl_built_1)
def lb_impl_built_2 : AC := (.seq (.reg [⟨(some 28), .op (.bin .lss (.tmp 27) (.tmp 26)), none⟩])
  (.seq (.cond (.tmp 28) (.ghost (.kill [28]) .skip)
  (.ghost (.kill [1, 3, 4, 5, 6, 26, 27, 28]) (.exit 0)))
  (.seq (.block 1 (.seq (.post (.reg [⟨(some 29), .op (.mv (.tmp 27)), none⟩,
    ⟨(some 16), .op (.mv (.tmp 29)), none⟩]) (.kill [29]))
  (.seq (.post (.reg [⟨(some 30), .op (.lits true 2 0 (Value.agg #[Value.int .i64 0, Value.int .i64 0]) []), none⟩,
    ⟨(some 31), .op (.lits true 1 0 (Value.slice none 0 0) []), none⟩,
    ⟨(some 32), .op (.lits true 1 0 (Value.int .i64 0) []), none⟩,
    ⟨(some 17), .op (.mv (.tmp 30)), none⟩,
    ⟨(some 18), .op (.mv (.tmp 31)), none⟩,
    ⟨(some 19), .op (.mv (.tmp 32)), none⟩]) (.kill [30, 31, 32]))
  (.seq (.seq (.reg [⟨(some 33), .op (.mv (.const (Value.int .i64 0))), none⟩])
  (.block 2 (.ghost (.ow 15 (some 2) 1) (.ghost (.ow 15 (some 3) 1) (.ghost (.ow 15 (some 4) 1) (.ghost (.ow 15 (some 5) 1) (.ghost (.ow 17 none 2) (.ghost (.ow 18 none 1) (.ghost (.ow 19 none 1) lo_impl_built_1)))))))))
  (.ghost (.kill [33]) (.post (.draw [⟨0, ⟨(some 70), .op (.faddr (.tmp 15) 2), none⟩, []⟩,
    ⟨1, ⟨(some 71), .op (.load 1 false (.tmp 70)), none⟩, []⟩,
    ⟨2, ⟨(some 72), .op (.mv (.tmp 3)), none⟩, []⟩,
    ⟨3, ⟨(some 73), .op (.mv (.tmp 16)), none⟩, []⟩,
    ⟨7, ⟨(some 77), .op (.faddr (.tmp 15) 3), none⟩, []⟩,
    ⟨8, ⟨(some 78), .op (.load 1 false (.tmp 77)), none⟩, []⟩,
    ⟨9, ⟨(some 79), .op (.mv (.tmp 17)), none⟩, []⟩,
    ⟨10, ⟨(some 80), .op (.lits true 1 1 (Value.slice none 0 0) [(0, (.tmp 79))]), none⟩, []⟩,
    ⟨12, ⟨(some 82), .op (.faddr (.tmp 15) 4), none⟩, []⟩,
    ⟨13, ⟨(some 83), .op (.load 1 false (.tmp 82)), none⟩, []⟩,
    ⟨14, ⟨(some 84), .op (.mv (.tmp 18)), none⟩, []⟩,
    ⟨15, ⟨(some 85), .op (.lits true 1 1 (Value.slice none 0 0) [(0, (.tmp 84))]), none⟩, []⟩,
    ⟨17, ⟨(some 87), .op (.faddr (.tmp 15) 5), none⟩, []⟩,
    ⟨18, ⟨(some 88), .op (.load 1 false (.tmp 87)), none⟩, []⟩,
    ⟨19, ⟨(some 89), .op (.mv (.tmp 19)), none⟩, []⟩,
    ⟨20, ⟨(some 90), .op (.lits true 1 1 (Value.slice none 0 0) [(0, (.tmp 89))]), none⟩, []⟩,
    ⟨4, ⟨(some 74), .call (.tmp 72) [(.tmp 73)], none⟩, [1, 8, 13, 18]⟩,
    ⟨5, ⟨(some 75), .op (.lits true 1 1 (Value.bool false) [(0, (.tmp 74))]), none⟩, []⟩,
    ⟨6, ⟨(some 76), .op (.append (.tmp 71) (.tmp 75) 1 1), none⟩, [8, 13, 18]⟩,
    ⟨22, ⟨(some 92), .op (.faddr (.tmp 15) 2), none⟩, []⟩,
    ⟨11, ⟨(some 81), .op (.append (.tmp 78) (.tmp 80) 1 24), none⟩, [13, 18]⟩,
    ⟨16, ⟨(some 86), .op (.append (.tmp 83) (.tmp 85) 1 24), none⟩, [18]⟩,
    ⟨21, ⟨(some 91), .op (.append (.tmp 88) (.tmp 90) 1 24), none⟩, []⟩,
    ⟨23, ⟨none, .op (.store 1 (.tmp 92) (.tmp 76)), none⟩, []⟩,
    ⟨24, ⟨(some 93), .op (.faddr (.tmp 15) 3), none⟩, []⟩,
    ⟨25, ⟨none, .op (.store 1 (.tmp 93) (.tmp 81)), none⟩, []⟩,
    ⟨26, ⟨(some 94), .op (.faddr (.tmp 15) 4), none⟩, []⟩,
    ⟨27, ⟨none, .op (.store 1 (.tmp 94) (.tmp 86)), none⟩, []⟩,
    ⟨28, ⟨(some 95), .op (.faddr (.tmp 15) 5), none⟩, []⟩,
    ⟨29, ⟨none, .op (.store 1 (.tmp 95) (.tmp 91)), none⟩, []⟩]
    [0, 1, 0, 0, 12, 28, 63, 0, 128, 0, 512, 2047, 0, 4096, 0, 16384, 65535, 0, 131072, 0, 524288, 2097151, 406015, 8388607, 16777215, 33554431, 67108863, 134217727, 268435455, 536870911]) (.kill [16, 17, 18, 19, 70, 71, 72, 73, 74, 75, 76, 77, 78, 79, 80, 81, 82, 83, 84, 85, 86, 87, 88, 89, 90, 91, 92, 93, 94, 95])))))))
  (.post (.reg [⟨(some 96), .op (.bin .add (.tmp 27) (.const (Value.int .i64 1))), none⟩,
    ⟨(some 27), .op (.mv (.tmp 96)), none⟩]) (.kill [96])))))
def lo_impl_built_2 : AC := (.loop lb_impl_built_2)
def ac_impl_built : AC := (.seq (.reg [⟨(some 14), .op (.alloc (Value.agg #[Value.int .i64 0, Value.int .i64 0, Value.slice none 0 0, Value.slice none 0 0, Value.slice none 0 0, Value.slice none 0 0])), none⟩])
  (.seq (.post (.reg [⟨(some 23), .op (.mv (.tmp 1)), none⟩,
    ⟨(some 24), .op (.mv (.tmp 2)), none⟩,
    ⟨(some 25), .op (.build [Value.int .i64 0, Value.int .i64 0, Value.slice none 0 0, Value.slice none 0 0, Value.slice none 0 0, Value.slice none 0 0] [(0, 1, (.tmp 23)), (1, 1, (.tmp 24))]), none⟩,
    ⟨(some 15), .op (.alloc (Value.agg #[Value.int .i64 0, Value.int .i64 0, Value.slice none 0 0, Value.slice none 0 0, Value.slice none 0 0, Value.slice none 0 0])), none⟩,
    ⟨none, .op (.store 6 (.tmp 15) (.tmp 25)), none⟩]) (.kill [2, 23, 24, 25]))
  (.seq (.seq (.post (.reg [⟨(some 26), .op (.mv (.tmp 0)), none⟩,
    ⟨(some 27), .op (.mv (.const (Value.int .i64 0))), none⟩]) (.kill [0]))
  (.block 0 (.ghost (.ow 15 (some 2) 1) (.ghost (.ow 15 (some 3) 1) (.ghost (.ow 15 (some 4) 1) (.ghost (.ow 15 (some 5) 1) lo_impl_built_2))))))
  (.ghost (.kill [1, 3, 4, 5, 6, 26, 27]) (.seq (.post (.reg [⟨(some 97), .op (.load 6 true (.tmp 15)), none⟩,
    ⟨none, .op (.store 6 (.tmp 14) (.tmp 97)), none⟩]) (.kill [15, 97]))
  .ret)))))
theorem cf_impl_built : chkFn Try.prog i_impl_built ac_impl_built [.cell 14 6 true] 98 = true := by decide +kernel
def fa_impl_built : FnA := ⟨ac_impl_built, [.cell 14 6 true], 98, false, false, [], .any, none⟩

/-- The checked code of impl CheckerOfAlgebra 1. -/
def ac_impl_CheckerOfAlgebra_1 : AC := (.seq (.post (.reg [⟨(some 4), .op (.mv (.const (Value.bool false))), none⟩]) (.kill [4]))
  (.seq (.post (.reg [⟨(some 5), .op (.mv (.tmp 0)), none⟩,
    ⟨(some 6), .op (.load 1 false (.tmp 1)), none⟩,
    ⟨(some 7), .op (.bin .lss (.tmp 5) (.tmp 6)), none⟩,
    ⟨(some 8), .op (.mv (.tmp 7)), none⟩,
    ⟨(some 9), .op (.faddr (.tmp 2) 3), some (8, true)⟩,
    ⟨(some 10), .op (.load 1 false (.tmp 9)), some (8, true)⟩,
    ⟨(some 11), .op (.mv (.tmp 0)), some (8, true)⟩,
    ⟨(some 12), .op (.iaddrS (.tmp 10) (.tmp 11) 1), some (8, true)⟩,
    ⟨(some 13), .op (.load 1 false (.tmp 12)), some (8, true)⟩,
    ⟨(some 14), .op (.pick (.tmp 8) (.tmp 13) (.const (Value.bool false))), none⟩,
    ⟨(some 4), .op (.mv (.tmp 14)), none⟩]) (.kill [0, 1, 2, 5, 6, 7, 8, 9, 10, 11, 12, 13, 14]))
  .ret))
theorem cf_impl_CheckerOfAlgebra_1 : chkFn Try.prog i_impl_CheckerOfAlgebra_1 ac_impl_CheckerOfAlgebra_1 [.tmp 4] 15 = true := by decide +kernel
def fa_impl_CheckerOfAlgebra_1 : FnA := ⟨ac_impl_CheckerOfAlgebra_1, [.tmp 4], 15, false, true, [], .any, none⟩

/-- The checked code of impl CheckerOfAlgebra 2. -/
def ac_impl_CheckerOfAlgebra_2 : AC := (.seq (.reg [⟨(some 6), .op (.alloc (Value.agg #[Value.int .i64 0, Value.int .i64 0])), none⟩])
  (.seq (.seq (.post (.reg [⟨(some 7), .op (.mv (.tmp 0)), none⟩,
    ⟨(some 8), .op (.load 1 false (.tmp 2)), none⟩,
    ⟨(some 9), .op (.bin .eql (.tmp 7) (.tmp 8)), none⟩]) (.kill [7, 8]))
  (.cond (.tmp 9) (.ghost (.kill [3, 9]) (.seq (.post (.reg [⟨(some 10), .op (.load 1 false (.tmp 2)), none⟩,
    ⟨(some 11), .op (.mv (.tmp 0)), none⟩,
    ⟨(some 12), .op (.bin .mul (.const (Value.int .i64 2)) (.tmp 11)), none⟩,
    ⟨(some 13), .op (.mv (.tmp 1)), none⟩,
    ⟨(some 14), .op (.bin .add (.tmp 12) (.tmp 13)), none⟩,
    ⟨(some 15), .op (.build [Value.int .i64 0, Value.int .i64 0] [(0, 1, (.tmp 10)), (1, 1, (.tmp 14))]), none⟩,
    ⟨none, .op (.store 2 (.tmp 6) (.tmp 15)), none⟩]) (.kill [0, 1, 2, 10, 11, 12, 13, 14, 15]))
  .ret))
  (.ghost (.kill [2, 9]) .skip)))
  (.seq (.post (.reg [⟨(some 16), .op (.load 1 false (.tmp 3)), none⟩,
    ⟨(some 17), .op (.mv (.tmp 0)), none⟩,
    ⟨(some 18), .op (.bin .mul (.const (Value.int .i64 2)) (.tmp 17)), none⟩,
    ⟨(some 19), .op (.mv (.tmp 1)), none⟩,
    ⟨(some 20), .op (.bin .add (.tmp 18) (.tmp 19)), none⟩,
    ⟨(some 21), .op (.build [Value.int .i64 0, Value.int .i64 0] [(0, 1, (.tmp 16)), (1, 1, (.tmp 20))]), none⟩,
    ⟨none, .op (.store 2 (.tmp 6) (.tmp 21)), none⟩]) (.kill [0, 1, 3, 16, 17, 18, 19, 20, 21]))
  .ret)))
theorem cf_impl_CheckerOfAlgebra_2 : chkFn Try.prog i_impl_CheckerOfAlgebra_2 ac_impl_CheckerOfAlgebra_2 [.cell 6 2 true] 22 = true := by decide +kernel
def fa_impl_CheckerOfAlgebra_2 : FnA := ⟨ac_impl_CheckerOfAlgebra_2, [.cell 6 2 true], 22, false, true, [], .any, none⟩

/-- The checked code of impl CheckerOfAlgebra 3. -/
def ac_impl_CheckerOfAlgebra_3 : AC := (.seq (.post (.reg [⟨(some 9), .op (.mv (.const (Value.int .i64 0))), none⟩]) (.kill [9]))
  (.seq (.post (.reg [⟨(some 13), .op (.mv (.tmp 2)), none⟩,
    ⟨(some 14), .op (.bin .quo (.tmp 13) (.const (Value.int .i64 2))), none⟩,
    ⟨(some 15), .op (.mv (.tmp 2)), none⟩,
    ⟨(some 16), .op (.bin .rem (.tmp 15) (.const (Value.int .i64 2))), none⟩,
    ⟨(some 10), .op (.mv (.tmp 14)), none⟩,
    ⟨(some 11), .op (.mv (.tmp 16)), none⟩]) (.kill [2, 13, 14, 15, 16]))
  (.seq (.seq (.post (.reg [⟨(some 17), .op (.mv (.tmp 0)), none⟩,
    ⟨(some 18), .op (.load 1 false (.tmp 3)), none⟩,
    ⟨(some 19), .op (.bin .lss (.tmp 17) (.tmp 18)), none⟩,
    ⟨(some 20), .op (.mv (.tmp 19)), none⟩,
    ⟨(some 21), .op (.mv (.tmp 0)), some (20, false)⟩,
    ⟨(some 22), .op (.load 1 false (.tmp 4)), some (20, false)⟩,
    ⟨(some 23), .op (.bin .eql (.tmp 21) (.tmp 22)), some (20, false)⟩,
    ⟨(some 24), .op (.pick (.tmp 20) (.const (Value.bool true)) (.tmp 23)), none⟩,
    ⟨(some 25), .op (.mv (.tmp 24)), none⟩,
    ⟨(some 26), .op (.mv (.tmp 10)), some (25, false)⟩,
    ⟨(some 27), .op (.load 1 false (.tmp 4)), some (25, false)⟩,
    ⟨(some 28), .op (.bin .geq (.tmp 26) (.tmp 27)), some (25, false)⟩,
    ⟨(some 29), .op (.pick (.tmp 25) (.const (Value.bool true)) (.tmp 28)), none⟩]) (.kill [17, 18, 19, 20, 21, 22, 23, 24, 25, 26, 27, 28]))
  (.cond (.tmp 29) (.ghost (.kill [0, 1, 3, 5, 10, 11, 29]) (.seq (.post (.reg [⟨(some 30), .op (.load 1 false (.tmp 4)), none⟩,
    ⟨(some 9), .op (.mv (.tmp 30)), none⟩]) (.kill [4, 30]))
  .ret))
  (.ghost (.kill [4, 29]) .skip)))
  (.seq (.post (.draw [⟨0, ⟨(some 31), .op (.faddr (.tmp 5) 0), none⟩, []⟩,
    ⟨1, ⟨(some 32), .op (.load 1 false (.tmp 31)), none⟩, []⟩,
    ⟨2, ⟨(some 33), .op (.mv (.tmp 10)), none⟩, []⟩,
    ⟨3, ⟨(some 34), .op (.load 1 false (.tmp 3)), none⟩, []⟩,
    ⟨4, ⟨(some 35), .op (.bin .rem (.tmp 33) (.tmp 34)), none⟩, []⟩,
    ⟨5, ⟨(some 36), .op (.iaddrS (.tmp 32) (.tmp 35) 1), none⟩, []⟩,
    ⟨6, ⟨(some 37), .op (.load 1 false (.tmp 36)), none⟩, []⟩,
    ⟨7, ⟨(some 38), .op (.faddr (.tmp 5) 1), none⟩, []⟩,
    ⟨8, ⟨(some 39), .op (.load 1 false (.tmp 38)), none⟩, []⟩,
    ⟨9, ⟨(some 40), .op (.mv (.tmp 11)), none⟩, []⟩,
    ⟨10, ⟨(some 41), .op (.bin .mul (.const (Value.int .i64 2)) (.tmp 40)), none⟩, []⟩,
    ⟨11, ⟨(some 42), .op (.mv (.tmp 1)), none⟩, []⟩,
    ⟨12, ⟨(some 43), .op (.bin .add (.tmp 41) (.tmp 42)), none⟩, []⟩,
    ⟨13, ⟨(some 44), .op (.iaddrS (.tmp 39) (.tmp 43) 1), none⟩, []⟩,
    ⟨14, ⟨(some 45), .op (.load 1 false (.tmp 44)), none⟩, []⟩,
    ⟨15, ⟨(some 46), .op (.mv (.tmp 0)), none⟩, []⟩,
    ⟨16, ⟨(some 47), .op (.load 1 false (.tmp 3)), none⟩, []⟩,
    ⟨17, ⟨(some 48), .op (.bin .sub (.tmp 46) (.tmp 47)), none⟩, []⟩,
    ⟨18, ⟨(some 49), .op (.iaddrS (.tmp 45) (.tmp 48) 1), none⟩, []⟩,
    ⟨19, ⟨(some 50), .op (.load 1 false (.tmp 49)), none⟩, []⟩,
    ⟨20, ⟨(some 51), .op (.iaddrS (.tmp 37) (.tmp 50) 1), none⟩, []⟩,
    ⟨21, ⟨(some 52), .op (.load 1 false (.tmp 51)), none⟩, []⟩,
    ⟨22, ⟨(some 12), .op (.mv (.tmp 52)), none⟩, []⟩]
    [0, 1, 0, 0, 12, 31, 63, 0, 128, 0, 512, 0, 3584, 8064, 16256, 0, 0, 98304, 262016, 524160, 1048575, 2097151, 4194303]) (.kill [0, 1, 5, 11, 31, 32, 33, 34, 35, 36, 37, 38, 39, 40, 41, 42, 43, 44, 45, 46, 47, 48, 49, 50, 51, 52]))
  (.seq (.seq (.post (.reg [⟨(some 53), .op (.mv (.tmp 10)), none⟩,
    ⟨(some 54), .op (.load 1 false (.tmp 3)), none⟩,
    ⟨(some 55), .op (.bin .geq (.tmp 53) (.tmp 54)), none⟩]) (.kill [10, 53, 54]))
  (.cond (.tmp 55) (.ghost (.kill [55]) (.post (.reg [⟨(some 56), .op (.mv (.tmp 12)), none⟩,
    ⟨(some 57), .op (.load 1 false (.tmp 3)), none⟩,
    ⟨(some 58), .op (.bin .add (.tmp 56) (.tmp 57)), none⟩,
    ⟨(some 12), .op (.mv (.tmp 58)), none⟩]) (.kill [3, 56, 57, 58])))
  (.ghost (.kill [3, 55]) .skip)))
  (.seq (.post (.reg [⟨(some 59), .op (.mv (.tmp 12)), none⟩,
    ⟨(some 9), .op (.mv (.tmp 59)), none⟩]) (.kill [12, 59]))
  .ret))))))
theorem cf_impl_CheckerOfAlgebra_3 : chkFn Try.prog i_impl_CheckerOfAlgebra_3 ac_impl_CheckerOfAlgebra_3 [.tmp 9] 60 = true := by decide +kernel
def fa_impl_CheckerOfAlgebra_3 : FnA := ⟨ac_impl_CheckerOfAlgebra_3, [.tmp 9], 60, false, true, [], .any, none⟩

/-- The checked code of impl CheckerOfAlgebra 4. -/
def ac_impl_CheckerOfAlgebra_4 : AC := (.seq (.post (.reg [⟨(some 7), .op (.mv (.const (Value.int .i64 0))), none⟩]) (.kill [7]))
  (.seq (.seq (.post (.reg [⟨(some 8), .op (.mv (.tmp 0)), none⟩,
    ⟨(some 9), .op (.load 1 false (.tmp 2)), none⟩,
    ⟨(some 10), .op (.bin .eql (.tmp 8) (.tmp 9)), none⟩]) (.kill [8, 9]))
  (.cond (.tmp 10) (.ghost (.kill [0, 1, 3, 4, 10]) (.seq (.post (.reg [⟨(some 11), .op (.load 1 false (.tmp 2)), none⟩,
    ⟨(some 7), .op (.mv (.tmp 11)), none⟩]) (.kill [2, 11]))
  .ret))
  (.ghost (.kill [2, 10]) .skip)))
  (.seq (.post (.draw [⟨0, ⟨(some 12), .op (.mv (.tmp 0)), none⟩, []⟩,
    ⟨1, ⟨(some 13), .op (.load 1 false (.tmp 3)), none⟩, []⟩,
    ⟨2, ⟨(some 14), .op (.bin .quo (.tmp 12) (.tmp 13)), none⟩, []⟩,
    ⟨3, ⟨(some 15), .op (.load 1 false (.tmp 3)), none⟩, []⟩,
    ⟨4, ⟨(some 16), .op (.bin .mul (.tmp 14) (.tmp 15)), none⟩, []⟩,
    ⟨5, ⟨(some 17), .op (.faddr (.tmp 4) 0), none⟩, []⟩,
    ⟨6, ⟨(some 18), .op (.load 1 false (.tmp 17)), none⟩, []⟩,
    ⟨7, ⟨(some 19), .op (.mv (.tmp 0)), none⟩, []⟩,
    ⟨8, ⟨(some 20), .op (.load 1 false (.tmp 3)), none⟩, []⟩,
    ⟨9, ⟨(some 21), .op (.bin .rem (.tmp 19) (.tmp 20)), none⟩, []⟩,
    ⟨10, ⟨(some 22), .op (.iaddrS (.tmp 18) (.tmp 21) 1), none⟩, []⟩,
    ⟨11, ⟨(some 23), .op (.load 1 false (.tmp 22)), none⟩, []⟩,
    ⟨12, ⟨(some 24), .op (.faddr (.tmp 4) 2), none⟩, []⟩,
    ⟨13, ⟨(some 25), .op (.load 1 false (.tmp 24)), none⟩, []⟩,
    ⟨14, ⟨(some 26), .op (.mv (.tmp 1)), none⟩, []⟩,
    ⟨15, ⟨(some 27), .op (.iaddrS (.tmp 25) (.tmp 26) 1), none⟩, []⟩,
    ⟨16, ⟨(some 28), .op (.load 1 false (.tmp 27)), none⟩, []⟩,
    ⟨17, ⟨(some 29), .op (.iaddrS (.tmp 23) (.tmp 28) 1), none⟩, []⟩,
    ⟨18, ⟨(some 30), .op (.load 1 false (.tmp 29)), none⟩, []⟩,
    ⟨19, ⟨(some 31), .op (.bin .add (.tmp 16) (.tmp 30)), none⟩, []⟩,
    ⟨20, ⟨(some 7), .op (.mv (.tmp 31)), none⟩, []⟩]
    [0, 0, 3, 0, 15, 0, 32, 0, 0, 384, 992, 2016, 0, 4096, 0, 28672, 61440, 131040, 262112, 524287, 1048575]) (.kill [0, 1, 3, 4, 12, 13, 14, 15, 16, 17, 18, 19, 20, 21, 22, 23, 24, 25, 26, 27, 28, 29, 30, 31]))
  .ret)))
theorem cf_impl_CheckerOfAlgebra_4 : chkFn Try.prog i_impl_CheckerOfAlgebra_4 ac_impl_CheckerOfAlgebra_4 [.tmp 7] 32 = true := by decide +kernel
def fa_impl_CheckerOfAlgebra_4 : FnA := ⟨ac_impl_CheckerOfAlgebra_4, [.tmp 7], 32, false, true, [], .any, none⟩

/-- The checked code of impl CheckerOfAlgebra. -/
def ac_impl_CheckerOfAlgebra : AC := (.seq (.post (.reg [⟨(some 1), .op (.box true (.tmp 0)), none⟩,
    ⟨(some 2), .op (.alloc (Value.agg #[Value.int .i64 0, Value.int .i64 0, Value.slice none 0 0, Value.slice none 0 0, Value.slice none 0 0, Value.slice none 0 0])), none⟩,
    ⟨(some 3), .op (.mv (.const (Value.int .i64 0))), none⟩]) (.kill [0, 3]))
  (.seq (.seq (.post (.reg [⟨(some 6), .op (.load 4 true (.tmp 1)), none⟩,
    ⟨(some 7), .call (.func i_impl_ValidAlgebra) [(.tmp 6)], none⟩,
    ⟨(some 8), .op (.un .not (.tmp 7)), none⟩]) (.kill [6, 7]))
  (.cond (.tmp 8) (.ghost (.kill [1, 8]) (.seq (.post (.reg [⟨(some 9), .op (.build [Value.int .i64 0, Value.int .i64 0, Value.slice none 0 0, Value.slice none 0 0, Value.slice none 0 0, Value.slice none 0 0] []), none⟩,
    ⟨none, .op (.store 6 (.tmp 2) (.tmp 9)), none⟩,
    ⟨(some 3), .op (.mv (.const (Value.int .i64 1))), none⟩]) (.kill [9]))
  .ret))
  (.ghost (.kill [8]) .skip)))
  (.seq (.post (.reg [⟨(some 10), .op (.load 4 true (.tmp 1)), none⟩,
    ⟨(some 11), .call (.func i_impl_Algebra_elements) [(.tmp 10)], none⟩,
    ⟨(some 4), .op (.alloc (Value.int .i64 0)), none⟩,
    ⟨none, .op (.store 1 (.tmp 4) (.tmp 11)), none⟩]) (.kill [10, 11]))
  (.seq (.post (.reg [⟨(some 12), .op (.load 1 false (.tmp 4)), none⟩,
    ⟨(some 13), .op (.bin .mul (.const (Value.int .i64 2)) (.tmp 12)), none⟩,
    ⟨(some 5), .op (.alloc (Value.int .i64 0)), none⟩,
    ⟨none, .op (.store 1 (.tmp 5) (.tmp 13)), none⟩]) (.kill [12, 13]))
  (.seq (.seq (.post (.reg [⟨(some 14), .op (.load 1 false (.tmp 5)), none⟩,
    ⟨(some 15), .op (.bin .add (.tmp 14) (.const (Value.int .i64 1))), none⟩,
    ⟨(some 16), .op (.bin .gtr (.tmp 15) (.const (Value.int .i64 40))), none⟩,
    ⟨(some 17), .op (.mv (.tmp 16)), none⟩,
    ⟨(some 18), .op (.load 1 false (.tmp 5)), some (17, false)⟩,
    ⟨(some 19), .op (.bin .add (.tmp 18) (.const (Value.int .i64 1))), some (17, false)⟩,
    ⟨(some 20), .op (.bin .mul (.const (Value.int .i64 2)) (.tmp 19)), some (17, false)⟩,
    ⟨(some 21), .op (.bin .gtr (.tmp 20) (.const (Value.int .i64 80))), some (17, false)⟩,
    ⟨(some 22), .op (.pick (.tmp 17) (.const (Value.bool true)) (.tmp 21)), none⟩]) (.kill [14, 15, 16, 17, 18, 19, 20, 21]))
  (.cond (.tmp 22) (.ghost (.kill [1, 4, 5, 22]) (.seq (.post (.reg [⟨(some 23), .op (.build [Value.int .i64 0, Value.int .i64 0, Value.slice none 0 0, Value.slice none 0 0, Value.slice none 0 0, Value.slice none 0 0] []), none⟩,
    ⟨none, .op (.store 6 (.tmp 2) (.tmp 23)), none⟩,
    ⟨(some 3), .op (.mv (.const (Value.int .i64 3))), none⟩]) (.kill [23]))
  .ret))
  (.ghost (.kill [22]) .skip)))
  (.seq (.post (.reg [⟨(some 24), .op (.load 1 false (.tmp 5)), none⟩,
    ⟨(some 25), .op (.bin .add (.tmp 24) (.const (Value.int .i64 1))), none⟩,
    ⟨(some 26), .op (.load 1 false (.tmp 5)), none⟩,
    ⟨(some 27), .op (.bin .add (.tmp 26) (.const (Value.int .i64 1))), none⟩,
    ⟨(some 28), .op (.bin .mul (.const (Value.int .i64 2)) (.tmp 27)), none⟩,
    ⟨(some 29), .op (.mkfn i_impl_CheckerOfAlgebra_1 [(.tmp 4), (.tmp 1)]), none⟩,
    ⟨(some 30), .op (.mkfn i_impl_CheckerOfAlgebra_2 [(.tmp 5), (.tmp 4)]), none⟩,
    ⟨(some 31), .op (.mkfn i_impl_CheckerOfAlgebra_3 [(.tmp 4), (.tmp 5), (.tmp 1)]), none⟩,
    ⟨(some 32), .op (.mkfn i_impl_CheckerOfAlgebra_4 [(.tmp 5), (.tmp 4), (.tmp 1)]), none⟩,
    ⟨(some 33), .call (.func i_impl_built) [(.tmp 25), (.tmp 28), (.const (Value.int .i64 0)), (.tmp 29), (.tmp 30), (.tmp 31), (.tmp 32)], none⟩,
    ⟨none, .op (.store 6 (.tmp 2) (.tmp 33)), none⟩,
    ⟨(some 3), .op (.mv (.const (Value.int .i64 0))), none⟩]) (.kill [1, 4, 5, 24, 25, 26, 27, 28, 29, 30, 31, 32, 33]))
  .ret))))))
theorem cf_impl_CheckerOfAlgebra : chkFn Try.prog i_impl_CheckerOfAlgebra ac_impl_CheckerOfAlgebra [.cell 2 6 true, .tmp 3] 34 = true := by decide +kernel
def fa_impl_CheckerOfAlgebra : FnA := ⟨ac_impl_CheckerOfAlgebra, [.cell 2 6 true, .tmp 3], 34, false, false, [(.agg [(.lst 1 (.lst 1 .any)), (.lst 1 (.lst 1 .any)), (.lst 1 .any), (.lst 1 .any)])], .any, none⟩

/-- The checked code of laws eqAlgebra. -/
def ac_laws_eqAlgebra : AC := (.seq (.post (.reg [⟨(some 2), .op (.box true (.tmp 0)), none⟩,
    ⟨(some 3), .op (.box true (.tmp 1)), none⟩,
    ⟨(some 4), .op (.mv (.const (Value.bool false))), none⟩]) (.kill [0, 1, 4]))
  (.seq (.seq (.post (.reg [⟨(some 5), .op (.faddr (.tmp 2) 0), none⟩,
    ⟨(some 6), .op (.load 1 false (.tmp 5)), none⟩,
    ⟨(some 7), .op (.faddr (.tmp 3) 0), none⟩,
    ⟨(some 8), .op (.load 1 false (.tmp 7)), none⟩,
    ⟨(some 9), .call (.func i_laws_eqInt64SS) [(.tmp 6), (.tmp 8)], none⟩,
    ⟨(some 10), .op (.un .not (.tmp 9)), none⟩]) (.kill [5, 6, 7, 8, 9]))
  (.cond (.tmp 10) (.ghost (.kill [2, 3, 10]) (.seq (.reg [⟨(some 4), .op (.mv (.const (Value.bool false))), none⟩])
  .ret))
  (.ghost (.kill [10]) .skip)))
  (.seq (.seq (.post (.reg [⟨(some 11), .op (.faddr (.tmp 2) 1), none⟩,
    ⟨(some 12), .op (.load 1 false (.tmp 11)), none⟩,
    ⟨(some 13), .op (.faddr (.tmp 3) 1), none⟩,
    ⟨(some 14), .op (.load 1 false (.tmp 13)), none⟩,
    ⟨(some 15), .call (.func i_laws_eqInt64SS) [(.tmp 12), (.tmp 14)], none⟩,
    ⟨(some 16), .op (.un .not (.tmp 15)), none⟩]) (.kill [11, 12, 13, 14, 15]))
  (.cond (.tmp 16) (.ghost (.kill [2, 3, 16]) (.seq (.reg [⟨(some 4), .op (.mv (.const (Value.bool false))), none⟩])
  .ret))
  (.ghost (.kill [16]) .skip)))
  (.seq (.seq (.post (.reg [⟨(some 17), .op (.faddr (.tmp 2) 2), none⟩,
    ⟨(some 18), .op (.load 1 false (.tmp 17)), none⟩,
    ⟨(some 19), .op (.faddr (.tmp 3) 2), none⟩,
    ⟨(some 20), .op (.load 1 false (.tmp 19)), none⟩,
    ⟨(some 21), .call (.func i_laws_eqInt64S) [(.tmp 18), (.tmp 20)], none⟩,
    ⟨(some 22), .op (.un .not (.tmp 21)), none⟩]) (.kill [17, 18, 19, 20, 21]))
  (.cond (.tmp 22) (.ghost (.kill [2, 3, 22]) (.seq (.reg [⟨(some 4), .op (.mv (.const (Value.bool false))), none⟩])
  .ret))
  (.ghost (.kill [22]) .skip)))
  (.seq (.seq (.post (.reg [⟨(some 23), .op (.faddr (.tmp 2) 3), none⟩,
    ⟨(some 24), .op (.load 1 false (.tmp 23)), none⟩,
    ⟨(some 25), .op (.faddr (.tmp 3) 3), none⟩,
    ⟨(some 26), .op (.load 1 false (.tmp 25)), none⟩,
    ⟨(some 27), .call (.func i_laws_eqBoolS) [(.tmp 24), (.tmp 26)], none⟩,
    ⟨(some 28), .op (.un .not (.tmp 27)), none⟩]) (.kill [2, 3, 23, 24, 25, 26, 27]))
  (.cond (.tmp 28) (.ghost (.kill [28]) (.seq (.reg [⟨(some 4), .op (.mv (.const (Value.bool false))), none⟩])
  .ret))
  (.ghost (.kill [28]) .skip)))
  (.seq (.reg [⟨(some 4), .op (.mv (.const (Value.bool true))), none⟩])
  .ret))))))
theorem cf_laws_eqAlgebra : chkFn Try.prog i_laws_eqAlgebra ac_laws_eqAlgebra [.tmp 4] 29 = true := by decide +kernel
def fa_laws_eqAlgebra : FnA := ⟨ac_laws_eqAlgebra, [.tmp 4], 29, false, true, [(.agg [(.lst 1 (.lst 1 .any)), (.lst 1 (.lst 1 .any)), (.lst 1 .any), (.lst 1 .any)]), (.agg [(.lst 1 (.lst 1 .any)), (.lst 1 (.lst 1 .any)), (.lst 1 .any), (.lst 1 .any)])], .any, none⟩

/-- The checked code of laws markAlgebra. -/
def ac_laws_markAlgebra : AC := (.seq (.post (.reg [⟨(some 2), .op (.box false (.tmp 0)), none⟩,
    ⟨(some 4), .op (.mv (.const (Value.int .i64 0))), none⟩]) (.kill [0, 4]))
  (.seq (.post (.reg [⟨(some 5), .op (.faddr (.tmp 2) 0), none⟩,
    ⟨(some 6), .op (.load 1 false (.tmp 5)), none⟩,
    ⟨(some 7), .op (.mv (.tmp 1)), none⟩,
    ⟨(some 8), .call (.func i_laws_markInt64SS) [(.tmp 6), (.tmp 7)], none⟩,
    ⟨(some 1), .op (.mv (.tmp 8)), none⟩]) (.kill [5, 6, 7, 8]))
  (.seq (.post (.reg [⟨(some 9), .op (.faddr (.tmp 2) 1), none⟩,
    ⟨(some 10), .op (.load 1 false (.tmp 9)), none⟩,
    ⟨(some 11), .op (.mv (.tmp 1)), none⟩,
    ⟨(some 12), .call (.func i_laws_markInt64SS) [(.tmp 10), (.tmp 11)], none⟩,
    ⟨(some 1), .op (.mv (.tmp 12)), none⟩]) (.kill [9, 10, 11, 12]))
  (.seq (.post (.reg [⟨(some 13), .op (.faddr (.tmp 2) 2), none⟩,
    ⟨(some 14), .op (.load 1 false (.tmp 13)), none⟩,
    ⟨(some 15), .op (.mv (.tmp 1)), none⟩,
    ⟨(some 16), .call (.func i_laws_markInt64S) [(.tmp 14), (.tmp 15)], none⟩,
    ⟨(some 1), .op (.mv (.tmp 16)), none⟩]) (.kill [13, 14, 15, 16]))
  (.seq (.post (.reg [⟨(some 17), .op (.faddr (.tmp 2) 3), none⟩,
    ⟨(some 18), .op (.load 1 false (.tmp 17)), none⟩,
    ⟨(some 19), .op (.mv (.tmp 1)), none⟩,
    ⟨(some 20), .call (.func i_laws_markBoolS) [(.tmp 18), (.tmp 19)], none⟩,
    ⟨(some 1), .op (.mv (.tmp 20)), none⟩]) (.kill [2, 17, 18, 19, 20]))
  (.seq (.post (.reg [⟨(some 21), .op (.mv (.tmp 1)), none⟩,
    ⟨(some 4), .op (.mv (.tmp 21)), none⟩]) (.kill [1, 21]))
  .ret))))))
theorem cf_laws_markAlgebra : chkFn Try.prog i_laws_markAlgebra ac_laws_markAlgebra [.tmp 4] 22 = true := by decide +kernel
def fa_laws_markAlgebra : FnA := ⟨ac_laws_markAlgebra, [.tmp 4], 22, true, false, [], .any, none⟩

/-- The checked code of laws heldInt64S. -/
def lb_laws_heldInt64S_0 : AC := (.seq (.seq (.post (.reg [⟨(some 6), .op (.mv (.tmp 5)), none⟩,
    ⟨(some 7), .op (.mv (.tmp 0)), none⟩,
    ⟨(some 8), .op (.len false (.tmp 7)), none⟩,
    ⟨(some 9), .op (.bin .lss (.tmp 6) (.tmp 8)), none⟩]) (.kill [6, 7, 8]))
  (.cond (.tmp 9) (.ghost (.kill [9]) .skip)
  (.ghost (.kill [0, 5, 9]) (.exit 0))))
  (.seq (.block 1 (.seq (.seq (.post (.reg [⟨(some 12), .op (.mv (.tmp 0)), none⟩,
    ⟨(some 13), .op (.mv (.tmp 5)), none⟩,
    ⟨(some 14), .op (.iaddrS (.tmp 12) (.tmp 13) 1), none⟩,
    ⟨(some 15), .op (.load 1 false (.tmp 14)), none⟩,
    ⟨(some 16), .op (.mv (.tmp 1)), none⟩,
    ⟨(some 17), .op (.bin .neq (.tmp 15) (.tmp 16)), none⟩]) (.kill [12, 13, 14, 15, 16]))
  (.cond (.tmp 17) (.ghost (.kill [0, 1, 5, 17]) (.seq (.reg [⟨(some 4), .op (.mv (.const (Value.int .i64 (-1)))), none⟩])
  .ret))
  (.ghost (.kill [17]) .skip)))
  (.post (.reg [⟨(some 18), .op (.mv (.tmp 1)), none⟩,
    ⟨(some 19), .op (.bin .add (.tmp 18) (.const (Value.int .i64 1))), none⟩,
    ⟨(some 1), .op (.mv (.tmp 19)), none⟩]) (.kill [18, 19]))))
  (.post (.reg [⟨(some 10), .op (.mv (.tmp 5)), none⟩,
    ⟨(some 11), .op (.bin .add (.tmp 10) (.const (Value.int .i64 1))), none⟩,
    ⟨(some 5), .op (.mv (.tmp 11)), none⟩]) (.kill [10, 11]))))
def lo_laws_heldInt64S_0 : AC := (.loop lb_laws_heldInt64S_0)
def ac_laws_heldInt64S : AC := (.seq (.post (.reg [⟨(some 4), .op (.mv (.const (Value.int .i64 0))), none⟩]) (.kill [4]))
  (.seq (.seq (.reg [⟨(some 5), .op (.mv (.const (Value.int .i64 0))), none⟩])
  (.block 0 lo_laws_heldInt64S_0))
  (.ghost (.kill [0, 5]) (.seq (.post (.reg [⟨(some 20), .op (.mv (.tmp 1)), none⟩,
    ⟨(some 4), .op (.mv (.tmp 20)), none⟩]) (.kill [1, 20]))
  .ret))))
theorem cf_laws_heldInt64S : chkFn Try.prog i_laws_heldInt64S ac_laws_heldInt64S [.tmp 4] 21 = true := by decide +kernel
def fa_laws_heldInt64S : FnA := ⟨ac_laws_heldInt64S, [.tmp 4], 21, false, true, [(.lst 1 .any), .any], .any, none⟩

/-- The checked code of laws heldInt64SS. -/
def lb_laws_heldInt64SS_0 : AC := (.seq (.seq (.post (.reg [⟨(some 6), .op (.mv (.tmp 5)), none⟩,
    ⟨(some 7), .op (.mv (.tmp 0)), none⟩,
    ⟨(some 8), .op (.len false (.tmp 7)), none⟩,
    ⟨(some 9), .op (.bin .lss (.tmp 6) (.tmp 8)), none⟩]) (.kill [6, 7, 8]))
  (.cond (.tmp 9) (.ghost (.kill [9]) .skip)
  (.ghost (.kill [0, 5, 9]) (.exit 0))))
  (.seq (.block 1 (.seq (.post (.reg [⟨(some 12), .op (.mv (.tmp 0)), none⟩,
    ⟨(some 13), .op (.mv (.tmp 5)), none⟩,
    ⟨(some 14), .op (.iaddrS (.tmp 12) (.tmp 13) 1), none⟩,
    ⟨(some 15), .op (.load 1 false (.tmp 14)), none⟩,
    ⟨(some 16), .op (.mv (.tmp 1)), none⟩,
    ⟨(some 17), .call (.func i_laws_heldInt64S) [(.tmp 15), (.tmp 16)], none⟩,
    ⟨(some 1), .op (.mv (.tmp 17)), none⟩]) (.kill [12, 13, 14, 15, 16, 17]))
  (.seq (.post (.reg [⟨(some 18), .op (.mv (.tmp 1)), none⟩,
    ⟨(some 19), .op (.bin .lss (.tmp 18) (.const (Value.int .i64 0))), none⟩]) (.kill [18]))
  (.cond (.tmp 19) (.ghost (.kill [0, 1, 5, 19]) (.seq (.reg [⟨(some 4), .op (.mv (.const (Value.int .i64 (-1)))), none⟩])
  .ret))
  (.ghost (.kill [19]) .skip)))))
  (.post (.reg [⟨(some 10), .op (.mv (.tmp 5)), none⟩,
    ⟨(some 11), .op (.bin .add (.tmp 10) (.const (Value.int .i64 1))), none⟩,
    ⟨(some 5), .op (.mv (.tmp 11)), none⟩]) (.kill [10, 11]))))
def lo_laws_heldInt64SS_0 : AC := (.loop lb_laws_heldInt64SS_0)
def ac_laws_heldInt64SS : AC := (.seq (.post (.reg [⟨(some 4), .op (.mv (.const (Value.int .i64 0))), none⟩]) (.kill [4]))
  (.seq (.seq (.reg [⟨(some 5), .op (.mv (.const (Value.int .i64 0))), none⟩])
  (.block 0 lo_laws_heldInt64SS_0))
  (.ghost (.kill [0, 5]) (.seq (.post (.reg [⟨(some 20), .op (.mv (.tmp 1)), none⟩,
    ⟨(some 4), .op (.mv (.tmp 20)), none⟩]) (.kill [1, 20]))
  .ret))))
theorem cf_laws_heldInt64SS : chkFn Try.prog i_laws_heldInt64SS ac_laws_heldInt64SS [.tmp 4] 21 = true := by decide +kernel
def fa_laws_heldInt64SS : FnA := ⟨ac_laws_heldInt64SS, [.tmp 4], 21, false, true, [(.lst 1 (.lst 1 .any)), .any], .any, none⟩

/-- The checked code of laws heldBoolS. -/
def lb_laws_heldBoolS_0 : AC := (.seq (.seq (.post (.reg [⟨(some 6), .op (.mv (.tmp 5)), none⟩,
    ⟨(some 7), .op (.mv (.tmp 0)), none⟩,
    ⟨(some 8), .op (.len false (.tmp 7)), none⟩,
    ⟨(some 9), .op (.bin .lss (.tmp 6) (.tmp 8)), none⟩]) (.kill [6, 7, 8]))
  (.cond (.tmp 9) (.ghost (.kill [9]) .skip)
  (.ghost (.kill [0, 5, 9]) (.exit 0))))
  (.seq (.block 1 (.seq (.seq (.post (.reg [⟨(some 12), .op (.mv (.tmp 0)), none⟩,
    ⟨(some 13), .op (.mv (.tmp 5)), none⟩,
    ⟨(some 14), .op (.iaddrS (.tmp 12) (.tmp 13) 1), none⟩,
    ⟨(some 15), .op (.load 1 false (.tmp 14)), none⟩,
    ⟨(some 16), .op (.mv (.tmp 1)), none⟩,
    ⟨(some 17), .op (.bin .rem (.tmp 16) (.const (Value.int .i64 3))), none⟩,
    ⟨(some 18), .op (.bin .eql (.tmp 17) (.const (Value.int .i64 0))), none⟩,
    ⟨(some 19), .op (.eqb true (.tmp 15) (.tmp 18)), none⟩]) (.kill [12, 13, 14, 15, 16, 17, 18]))
  (.cond (.tmp 19) (.ghost (.kill [0, 1, 5, 19]) (.seq (.reg [⟨(some 4), .op (.mv (.const (Value.int .i64 (-1)))), none⟩])
  .ret))
  (.ghost (.kill [19]) .skip)))
  (.post (.reg [⟨(some 20), .op (.mv (.tmp 1)), none⟩,
    ⟨(some 21), .op (.bin .add (.tmp 20) (.const (Value.int .i64 1))), none⟩,
    ⟨(some 1), .op (.mv (.tmp 21)), none⟩]) (.kill [20, 21]))))
  (.post (.reg [⟨(some 10), .op (.mv (.tmp 5)), none⟩,
    ⟨(some 11), .op (.bin .add (.tmp 10) (.const (Value.int .i64 1))), none⟩,
    ⟨(some 5), .op (.mv (.tmp 11)), none⟩]) (.kill [10, 11]))))
def lo_laws_heldBoolS_0 : AC := (.loop lb_laws_heldBoolS_0)
def ac_laws_heldBoolS : AC := (.seq (.post (.reg [⟨(some 4), .op (.mv (.const (Value.int .i64 0))), none⟩]) (.kill [4]))
  (.seq (.seq (.reg [⟨(some 5), .op (.mv (.const (Value.int .i64 0))), none⟩])
  (.block 0 lo_laws_heldBoolS_0))
  (.ghost (.kill [0, 5]) (.seq (.post (.reg [⟨(some 22), .op (.mv (.tmp 1)), none⟩,
    ⟨(some 4), .op (.mv (.tmp 22)), none⟩]) (.kill [1, 22]))
  .ret))))
theorem cf_laws_heldBoolS : chkFn Try.prog i_laws_heldBoolS ac_laws_heldBoolS [.tmp 4] 23 = true := by decide +kernel
def fa_laws_heldBoolS : FnA := ⟨ac_laws_heldBoolS, [.tmp 4], 23, false, true, [], .any, none⟩

/-- The checked code of laws heldPushS. -/
def lb_laws_heldPushS_0 : AC := (.seq (.seq (.post (.reg [⟨(some 6), .op (.mv (.tmp 5)), none⟩,
    ⟨(some 7), .op (.mv (.tmp 0)), none⟩,
    ⟨(some 8), .op (.len false (.tmp 7)), none⟩,
    ⟨(some 9), .op (.bin .lss (.tmp 6) (.tmp 8)), none⟩]) (.kill [6, 7, 8]))
  (.cond (.tmp 9) (.ghost (.kill [9]) .skip)
  (.ghost (.kill [0, 5, 9]) (.exit 0))))
  (.seq (.block 1 (.seq (.seq (.post (.reg [⟨(some 12), .op (.mv (.tmp 0)), none⟩,
    ⟨(some 13), .op (.mv (.tmp 5)), none⟩,
    ⟨(some 14), .op (.iaddrS (.tmp 12) (.tmp 13) 2), none⟩,
    ⟨(some 15), .op (.faddr (.tmp 14) 0), none⟩,
    ⟨(some 16), .op (.load 1 false (.tmp 15)), none⟩,
    ⟨(some 17), .op (.mv (.tmp 1)), none⟩,
    ⟨(some 18), .op (.bin .neq (.tmp 16) (.tmp 17)), none⟩]) (.kill [12, 13, 14, 15, 16, 17]))
  (.cond (.tmp 18) (.ghost (.kill [0, 1, 5, 18]) (.seq (.reg [⟨(some 4), .op (.mv (.const (Value.int .i64 (-1)))), none⟩])
  .ret))
  (.ghost (.kill [18]) .skip)))
  (.seq (.post (.reg [⟨(some 19), .op (.mv (.tmp 1)), none⟩,
    ⟨(some 20), .op (.bin .add (.tmp 19) (.const (Value.int .i64 1))), none⟩,
    ⟨(some 1), .op (.mv (.tmp 20)), none⟩]) (.kill [19, 20]))
  (.seq (.seq (.post (.reg [⟨(some 21), .op (.mv (.tmp 0)), none⟩,
    ⟨(some 22), .op (.mv (.tmp 5)), none⟩,
    ⟨(some 23), .op (.iaddrS (.tmp 21) (.tmp 22) 2), none⟩,
    ⟨(some 24), .op (.faddr (.tmp 23) 1), none⟩,
    ⟨(some 25), .op (.load 1 false (.tmp 24)), none⟩,
    ⟨(some 26), .op (.mv (.tmp 1)), none⟩,
    ⟨(some 27), .op (.bin .neq (.tmp 25) (.tmp 26)), none⟩]) (.kill [21, 22, 23, 24, 25, 26]))
  (.cond (.tmp 27) (.ghost (.kill [0, 1, 5, 27]) (.seq (.reg [⟨(some 4), .op (.mv (.const (Value.int .i64 (-1)))), none⟩])
  .ret))
  (.ghost (.kill [27]) .skip)))
  (.post (.reg [⟨(some 28), .op (.mv (.tmp 1)), none⟩,
    ⟨(some 29), .op (.bin .add (.tmp 28) (.const (Value.int .i64 1))), none⟩,
    ⟨(some 1), .op (.mv (.tmp 29)), none⟩]) (.kill [28, 29]))))))
  (.post (.reg [⟨(some 10), .op (.mv (.tmp 5)), none⟩,
    ⟨(some 11), .op (.bin .add (.tmp 10) (.const (Value.int .i64 1))), none⟩,
    ⟨(some 5), .op (.mv (.tmp 11)), none⟩]) (.kill [10, 11]))))
def lo_laws_heldPushS_0 : AC := (.loop lb_laws_heldPushS_0)
def ac_laws_heldPushS : AC := (.seq (.post (.reg [⟨(some 4), .op (.mv (.const (Value.int .i64 0))), none⟩]) (.kill [4]))
  (.seq (.seq (.reg [⟨(some 5), .op (.mv (.const (Value.int .i64 0))), none⟩])
  (.block 0 lo_laws_heldPushS_0))
  (.ghost (.kill [0, 5]) (.seq (.post (.reg [⟨(some 30), .op (.mv (.tmp 1)), none⟩,
    ⟨(some 4), .op (.mv (.tmp 30)), none⟩]) (.kill [1, 30]))
  .ret))))
theorem cf_laws_heldPushS : chkFn Try.prog i_laws_heldPushS ac_laws_heldPushS [.tmp 4] 31 = true := by decide +kernel
def fa_laws_heldPushS : FnA := ⟨ac_laws_heldPushS, [.tmp 4], 31, false, true, [], .any, none⟩

/-- The checked code of laws heldPushSS. -/
def lb_laws_heldPushSS_0 : AC := (.seq (.seq (.post (.reg [⟨(some 6), .op (.mv (.tmp 5)), none⟩,
    ⟨(some 7), .op (.mv (.tmp 0)), none⟩,
    ⟨(some 8), .op (.len false (.tmp 7)), none⟩,
    ⟨(some 9), .op (.bin .lss (.tmp 6) (.tmp 8)), none⟩]) (.kill [6, 7, 8]))
  (.cond (.tmp 9) (.ghost (.kill [9]) .skip)
  (.ghost (.kill [0, 5, 9]) (.exit 0))))
  (.seq (.block 1 (.seq (.post (.reg [⟨(some 12), .op (.mv (.tmp 0)), none⟩,
    ⟨(some 13), .op (.mv (.tmp 5)), none⟩,
    ⟨(some 14), .op (.iaddrS (.tmp 12) (.tmp 13) 1), none⟩,
    ⟨(some 15), .op (.load 1 false (.tmp 14)), none⟩,
    ⟨(some 16), .op (.mv (.tmp 1)), none⟩,
    ⟨(some 17), .call (.func i_laws_heldPushS) [(.tmp 15), (.tmp 16)], none⟩,
    ⟨(some 1), .op (.mv (.tmp 17)), none⟩]) (.kill [12, 13, 14, 15, 16, 17]))
  (.seq (.post (.reg [⟨(some 18), .op (.mv (.tmp 1)), none⟩,
    ⟨(some 19), .op (.bin .lss (.tmp 18) (.const (Value.int .i64 0))), none⟩]) (.kill [18]))
  (.cond (.tmp 19) (.ghost (.kill [0, 1, 5, 19]) (.seq (.reg [⟨(some 4), .op (.mv (.const (Value.int .i64 (-1)))), none⟩])
  .ret))
  (.ghost (.kill [19]) .skip)))))
  (.post (.reg [⟨(some 10), .op (.mv (.tmp 5)), none⟩,
    ⟨(some 11), .op (.bin .add (.tmp 10) (.const (Value.int .i64 1))), none⟩,
    ⟨(some 5), .op (.mv (.tmp 11)), none⟩]) (.kill [10, 11]))))
def lo_laws_heldPushSS_0 : AC := (.loop lb_laws_heldPushSS_0)
def ac_laws_heldPushSS : AC := (.seq (.post (.reg [⟨(some 4), .op (.mv (.const (Value.int .i64 0))), none⟩]) (.kill [4]))
  (.seq (.seq (.reg [⟨(some 5), .op (.mv (.const (Value.int .i64 0))), none⟩])
  (.block 0 lo_laws_heldPushSS_0))
  (.ghost (.kill [0, 5]) (.seq (.post (.reg [⟨(some 20), .op (.mv (.tmp 1)), none⟩,
    ⟨(some 4), .op (.mv (.tmp 20)), none⟩]) (.kill [1, 20]))
  .ret))))
theorem cf_laws_heldPushSS : chkFn Try.prog i_laws_heldPushSS ac_laws_heldPushSS [.tmp 4] 21 = true := by decide +kernel
def fa_laws_heldPushSS : FnA := ⟨ac_laws_heldPushSS, [.tmp 4], 21, false, true, [], .any, none⟩

/-- The checked code of laws heldInt64SSS. -/
def lb_laws_heldInt64SSS_0 : AC := (.seq (.seq (.post (.reg [⟨(some 6), .op (.mv (.tmp 5)), none⟩,
    ⟨(some 7), .op (.mv (.tmp 0)), none⟩,
    ⟨(some 8), .op (.len false (.tmp 7)), none⟩,
    ⟨(some 9), .op (.bin .lss (.tmp 6) (.tmp 8)), none⟩]) (.kill [6, 7, 8]))
  (.cond (.tmp 9) (.ghost (.kill [9]) .skip)
  (.ghost (.kill [0, 5, 9]) (.exit 0))))
  (.seq (.block 1 (.seq (.post (.reg [⟨(some 12), .op (.mv (.tmp 0)), none⟩,
    ⟨(some 13), .op (.mv (.tmp 5)), none⟩,
    ⟨(some 14), .op (.iaddrS (.tmp 12) (.tmp 13) 1), none⟩,
    ⟨(some 15), .op (.load 1 false (.tmp 14)), none⟩,
    ⟨(some 16), .op (.mv (.tmp 1)), none⟩,
    ⟨(some 17), .call (.func i_laws_heldInt64SS) [(.tmp 15), (.tmp 16)], none⟩,
    ⟨(some 1), .op (.mv (.tmp 17)), none⟩]) (.kill [12, 13, 14, 15, 16, 17]))
  (.seq (.post (.reg [⟨(some 18), .op (.mv (.tmp 1)), none⟩,
    ⟨(some 19), .op (.bin .lss (.tmp 18) (.const (Value.int .i64 0))), none⟩]) (.kill [18]))
  (.cond (.tmp 19) (.ghost (.kill [0, 1, 5, 19]) (.seq (.reg [⟨(some 4), .op (.mv (.const (Value.int .i64 (-1)))), none⟩])
  .ret))
  (.ghost (.kill [19]) .skip)))))
  (.post (.reg [⟨(some 10), .op (.mv (.tmp 5)), none⟩,
    ⟨(some 11), .op (.bin .add (.tmp 10) (.const (Value.int .i64 1))), none⟩,
    ⟨(some 5), .op (.mv (.tmp 11)), none⟩]) (.kill [10, 11]))))
def lo_laws_heldInt64SSS_0 : AC := (.loop lb_laws_heldInt64SSS_0)
def ac_laws_heldInt64SSS : AC := (.seq (.post (.reg [⟨(some 4), .op (.mv (.const (Value.int .i64 0))), none⟩]) (.kill [4]))
  (.seq (.seq (.reg [⟨(some 5), .op (.mv (.const (Value.int .i64 0))), none⟩])
  (.block 0 lo_laws_heldInt64SSS_0))
  (.ghost (.kill [0, 5]) (.seq (.post (.reg [⟨(some 20), .op (.mv (.tmp 1)), none⟩,
    ⟨(some 4), .op (.mv (.tmp 20)), none⟩]) (.kill [1, 20]))
  .ret))))
theorem cf_laws_heldInt64SSS : chkFn Try.prog i_laws_heldInt64SSS ac_laws_heldInt64SSS [.tmp 4] 21 = true := by decide +kernel
def fa_laws_heldInt64SSS : FnA := ⟨ac_laws_heldInt64SSS, [.tmp 4], 21, false, true, [], .any, none⟩

/-- The checked code of laws heldChecker. -/
def ac_laws_heldChecker : AC := (.seq (.post (.reg [⟨(some 2), .op (.box true (.tmp 0)), none⟩,
    ⟨(some 4), .op (.mv (.const (Value.int .i64 0))), none⟩]) (.kill [0, 4]))
  (.seq (.post (.reg [⟨(some 5), .op (.faddr (.tmp 2) 2), none⟩,
    ⟨(some 6), .op (.load 1 false (.tmp 5)), none⟩,
    ⟨(some 7), .op (.mv (.tmp 1)), none⟩,
    ⟨(some 8), .call (.func i_laws_heldBoolS) [(.tmp 6), (.tmp 7)], none⟩,
    ⟨(some 1), .op (.mv (.tmp 8)), none⟩]) (.kill [5, 6, 7, 8]))
  (.seq (.seq (.post (.reg [⟨(some 9), .op (.mv (.tmp 1)), none⟩,
    ⟨(some 10), .op (.bin .lss (.tmp 9) (.const (Value.int .i64 0))), none⟩]) (.kill [9]))
  (.cond (.tmp 10) (.ghost (.kill [1, 2, 10]) (.seq (.reg [⟨(some 4), .op (.mv (.const (Value.int .i64 (-1)))), none⟩])
  .ret))
  (.ghost (.kill [10]) .skip)))
  (.seq (.post (.reg [⟨(some 11), .op (.faddr (.tmp 2) 3), none⟩,
    ⟨(some 12), .op (.load 1 false (.tmp 11)), none⟩,
    ⟨(some 13), .op (.mv (.tmp 1)), none⟩,
    ⟨(some 14), .call (.func i_laws_heldPushSS) [(.tmp 12), (.tmp 13)], none⟩,
    ⟨(some 1), .op (.mv (.tmp 14)), none⟩]) (.kill [11, 12, 13, 14]))
  (.seq (.seq (.post (.reg [⟨(some 15), .op (.mv (.tmp 1)), none⟩,
    ⟨(some 16), .op (.bin .lss (.tmp 15) (.const (Value.int .i64 0))), none⟩]) (.kill [15]))
  (.cond (.tmp 16) (.ghost (.kill [1, 2, 16]) (.seq (.reg [⟨(some 4), .op (.mv (.const (Value.int .i64 (-1)))), none⟩])
  .ret))
  (.ghost (.kill [16]) .skip)))
  (.seq (.post (.reg [⟨(some 17), .op (.faddr (.tmp 2) 4), none⟩,
    ⟨(some 18), .op (.load 1 false (.tmp 17)), none⟩,
    ⟨(some 19), .op (.mv (.tmp 1)), none⟩,
    ⟨(some 20), .call (.func i_laws_heldInt64SSS) [(.tmp 18), (.tmp 19)], none⟩,
    ⟨(some 1), .op (.mv (.tmp 20)), none⟩]) (.kill [17, 18, 19, 20]))
  (.seq (.seq (.post (.reg [⟨(some 21), .op (.mv (.tmp 1)), none⟩,
    ⟨(some 22), .op (.bin .lss (.tmp 21) (.const (Value.int .i64 0))), none⟩]) (.kill [21]))
  (.cond (.tmp 22) (.ghost (.kill [1, 2, 22]) (.seq (.reg [⟨(some 4), .op (.mv (.const (Value.int .i64 (-1)))), none⟩])
  .ret))
  (.ghost (.kill [22]) .skip)))
  (.seq (.post (.reg [⟨(some 23), .op (.faddr (.tmp 2) 5), none⟩,
    ⟨(some 24), .op (.load 1 false (.tmp 23)), none⟩,
    ⟨(some 25), .op (.mv (.tmp 1)), none⟩,
    ⟨(some 26), .call (.func i_laws_heldInt64SS) [(.tmp 24), (.tmp 25)], none⟩,
    ⟨(some 1), .op (.mv (.tmp 26)), none⟩]) (.kill [2, 23, 24, 25, 26]))
  (.seq (.seq (.post (.reg [⟨(some 27), .op (.mv (.tmp 1)), none⟩,
    ⟨(some 28), .op (.bin .lss (.tmp 27) (.const (Value.int .i64 0))), none⟩]) (.kill [27]))
  (.cond (.tmp 28) (.ghost (.kill [1, 28]) (.seq (.reg [⟨(some 4), .op (.mv (.const (Value.int .i64 (-1)))), none⟩])
  .ret))
  (.ghost (.kill [28]) .skip)))
  (.seq (.post (.reg [⟨(some 29), .op (.mv (.tmp 1)), none⟩,
    ⟨(some 4), .op (.mv (.tmp 29)), none⟩]) (.kill [1, 29]))
  .ret))))))))))
theorem cf_laws_heldChecker : chkFn Try.prog i_laws_heldChecker ac_laws_heldChecker [.tmp 4] 30 = true := by decide +kernel
def fa_laws_heldChecker : FnA := ⟨ac_laws_heldChecker, [.tmp 4], 30, false, true, [(.agg [.any, .any, (.lst 1 .any), (.lst 1 (.lst 2 .any)), (.lst 1 (.lst 1 (.lst 1 .any))), (.lst 1 (.lst 1 .any))]), .any], .any, none⟩

/-- The checked code of laws FnExactCheckerOfAlgebra. -/
def ac_laws_FnExactCheckerOfAlgebra : AC := (.seq (.post (.reg [⟨(some 1), .op (.box true (.tmp 0)), none⟩,
    ⟨(some 2), .op (.mv (.const (Value.bool false))), none⟩]) (.kill [0, 2]))
  (.seq (.reg [⟨(some 3), .op (.mv (.const (Value.int .i64 1048576))), none⟩])
  (.seq (.post (.reg [⟨(some 14), .op (.load 4 true (.tmp 1)), none⟩,
    ⟨(some 15), .op (.mv (.tmp 3)), none⟩,
    ⟨(some 16), .call (.func i_laws_szAlgebra) [(.tmp 14), (.tmp 15)], none⟩,
    ⟨(some 3), .op (.mv (.tmp 16)), none⟩]) (.kill [14, 15, 16]))
  (.seq (.seq (.post (.reg [⟨(some 17), .op (.mv (.tmp 3)), none⟩,
    ⟨(some 18), .op (.bin .lss (.tmp 17) (.const (Value.int .i64 0))), none⟩]) (.kill [3, 17]))
  (.cond (.tmp 18) (.ghost (.kill [1, 18]) (.seq (.reg [⟨(some 2), .op (.mv (.const (Value.bool true))), none⟩])
  .ret))
  (.ghost (.kill [18]) .skip)))
  (.seq (.post (.reg [⟨(some 20), .op (.load 4 true (.tmp 1)), none⟩,
    ⟨(some 21), .call (.func i_laws_toAlgebra) [(.tmp 20)] true, none⟩,
    ⟨(some 22), .call (.func i_spec_CheckerOfAlgebra) [(.tmp 21)], none⟩,
    ⟨(some 19), .op (.mv (.tmp 22)), none⟩,
    ⟨(some 23), .op (.ext (.tmp 19) 0), none⟩,
    ⟨(some 24), .op (.ext (.tmp 19) 1), none⟩,
    ⟨(some 4), .op (.alloc (Value.agg #[Value.int .i64 0, Value.int .i64 0, Value.slice none 0 0, Value.slice none 0 0, Value.slice none 0 0, Value.slice none 0 0])), none⟩,
    ⟨none, .op (.store 6 (.tmp 4) (.tmp 23)), none⟩,
    ⟨(some 5), .op (.mv (.tmp 24)), none⟩]) (.kill [19, 20, 21, 22, 23, 24]))
  (.seq (.post (.reg [⟨(some 25), .op (.load 4 true (.tmp 1)), none⟩,
    ⟨(some 26), .call (.func i_laws_toAlgebra) [(.tmp 25)], none⟩,
    ⟨(some 6), .op (.alloc (Value.agg #[Value.slice none 0 0, Value.slice none 0 0, Value.slice none 0 0, Value.slice none 0 0])), none⟩,
    ⟨none, .op (.store 4 (.tmp 6) (.tmp 26)), none⟩]) (.kill [25, 26]))
  (.seq (.post (.reg [⟨(some 28), .op (.load 4 true (.tmp 6)), none⟩,
    ⟨(some 29), .call (.func i_impl_CheckerOfAlgebra) [(.tmp 28)], none⟩,
    ⟨(some 27), .op (.mv (.tmp 29)), none⟩,
    ⟨(some 30), .op (.ext (.tmp 27) 0), none⟩,
    ⟨(some 31), .op (.ext (.tmp 27) 1), none⟩,
    ⟨(some 7), .op (.alloc (Value.agg #[Value.int .i64 0, Value.int .i64 0, Value.slice none 0 0, Value.slice none 0 0, Value.slice none 0 0, Value.slice none 0 0])), none⟩,
    ⟨none, .op (.store 6 (.tmp 7) (.tmp 30)), none⟩,
    ⟨(some 8), .op (.mv (.tmp 31)), none⟩]) (.kill [27, 28, 29, 30, 31]))
  (.seq (.seq (.post (.reg [⟨(some 32), .op (.load 6 true (.tmp 7)), none⟩,
    ⟨(some 33), .op (.load 6 true (.tmp 4)), none⟩,
    ⟨(some 34), .call (.func i_laws_eqChecker) [(.tmp 32), (.tmp 33)], none⟩,
    ⟨(some 35), .op (.un .not (.tmp 34)), none⟩,
    ⟨(some 36), .op (.mv (.tmp 35)), none⟩,
    ⟨(some 37), .op (.mv (.tmp 8)), some (36, false)⟩,
    ⟨(some 38), .op (.mv (.tmp 5)), some (36, false)⟩,
    ⟨(some 39), .op (.bin .neq (.tmp 37) (.tmp 38)), some (36, false)⟩,
    ⟨(some 40), .op (.pick (.tmp 36) (.const (Value.bool true)) (.tmp 39)), none⟩]) (.kill [32, 33, 34, 35, 36, 37, 38, 39]))
  (.cond (.tmp 40) (.ghost (.kill [1, 4, 5, 6, 7, 8, 40]) (.seq (.reg [⟨(some 2), .op (.mv (.const (Value.bool false))), none⟩])
  .ret))
  (.ghost (.kill [40]) .skip)))
  (.seq (.seq (.post (.draw [⟨0, ⟨(some 41), .op (.load 4 true (.tmp 6)), none⟩, []⟩,
    ⟨1, ⟨(some 42), .op (.load 4 true (.tmp 1)), none⟩, []⟩,
    ⟨2, ⟨(some 43), .call (.func i_laws_toAlgebra) [(.tmp 42)], none⟩, [0]⟩,
    ⟨3, ⟨(some 44), .call (.func i_laws_eqAlgebra) [(.tmp 41), (.tmp 43)], none⟩, []⟩,
    ⟨4, ⟨(some 45), .op (.un .not (.tmp 44)), none⟩, []⟩]
    [0, 0, 2, 7, 15]) (.kill [41, 42, 43, 44]))
  (.cond (.tmp 45) (.ghost (.kill [1, 4, 5, 6, 7, 8, 45]) (.seq (.reg [⟨(some 2), .op (.mv (.const (Value.bool false))), none⟩])
  .ret))
  (.ghost (.kill [45]) .skip)))
  (.seq (.reg [⟨(some 9), .op (.mv (.const (Value.int .i64 1))), none⟩])
  (.seq (.post (.reg [⟨(some 46), .op (.load 4 true (.tmp 6)), none⟩,
    ⟨(some 47), .op (.mv (.tmp 9)), none⟩,
    ⟨(some 48), .call (.func i_laws_markAlgebra) [(.tmp 46), (.tmp 47)], none⟩,
    ⟨(some 9), .op (.mv (.tmp 48)), none⟩]) (.kill [6, 46, 47, 48]))
  (.seq (.seq (.post (.reg [⟨(some 49), .op (.mv (.tmp 9)), none⟩,
    ⟨(some 50), .op (.bin .lss (.tmp 49) (.const (Value.int .i64 0))), none⟩,
    ⟨(some 51), .op (.mv (.tmp 50)), none⟩,
    ⟨(some 52), .op (.load 6 true (.tmp 7)), some (51, false)⟩,
    ⟨(some 53), .op (.load 6 true (.tmp 4)), some (51, false)⟩,
    ⟨(some 54), .call (.func i_laws_eqChecker) [(.tmp 52), (.tmp 53)], some (51, false)⟩,
    ⟨(some 55), .op (.un .not (.tmp 54)), some (51, false)⟩,
    ⟨(some 56), .op (.pick (.tmp 51) (.const (Value.bool true)) (.tmp 55)), none⟩,
    ⟨(some 57), .op (.mv (.tmp 56)), none⟩,
    ⟨(some 58), .op (.mv (.tmp 8)), some (57, false)⟩,
    ⟨(some 59), .op (.mv (.tmp 5)), some (57, false)⟩,
    ⟨(some 60), .op (.bin .neq (.tmp 58) (.tmp 59)), some (57, false)⟩,
    ⟨(some 61), .op (.pick (.tmp 57) (.const (Value.bool true)) (.tmp 60)), none⟩]) (.kill [8, 9, 49, 50, 51, 52, 53, 54, 55, 56, 57, 58, 59, 60]))
  (.cond (.tmp 61) (.ghost (.kill [1, 4, 5, 7, 61]) (.seq (.reg [⟨(some 2), .op (.mv (.const (Value.bool false))), none⟩])
  .ret))
  (.ghost (.kill [61]) .skip)))
  (.seq (.reg [⟨(some 10), .op (.mv (.const (Value.int .i64 1))), none⟩])
  (.seq (.post (.reg [⟨(some 62), .op (.load 6 true (.tmp 7)), none⟩,
    ⟨(some 63), .op (.mv (.tmp 10)), none⟩,
    ⟨(some 64), .call (.func i_laws_markChecker) [(.tmp 62), (.tmp 63)], none⟩,
    ⟨(some 10), .op (.mv (.tmp 64)), none⟩]) (.kill [62, 63, 64]))
  (.seq (.reg [⟨(some 11), .op (.mv (.const (Value.int .i64 1))), none⟩])
  (.seq (.post (.reg [⟨(some 65), .op (.load 6 true (.tmp 7)), none⟩,
    ⟨(some 66), .op (.mv (.tmp 11)), none⟩,
    ⟨(some 67), .call (.func i_laws_heldChecker) [(.tmp 65), (.tmp 66)], none⟩,
    ⟨(some 11), .op (.mv (.tmp 67)), none⟩]) (.kill [65, 66, 67]))
  (.seq (.seq (.post (.reg [⟨(some 68), .op (.mv (.tmp 11)), none⟩,
    ⟨(some 69), .op (.bin .lss (.tmp 68) (.const (Value.int .i64 0))), none⟩]) (.kill [68]))
  (.cond (.tmp 69) (.ghost (.kill [1, 4, 5, 7, 10, 11, 69]) (.seq (.reg [⟨(some 2), .op (.mv (.const (Value.bool false))), none⟩])
  .ret))
  (.ghost (.kill [69]) .skip)))
  (.seq (.seq (.post (.reg [⟨(some 70), .op (.mv (.tmp 11)), none⟩,
    ⟨(some 71), .op (.mv (.tmp 10)), none⟩,
    ⟨(some 72), .op (.bin .neq (.tmp 70) (.tmp 71)), none⟩]) (.kill [11, 70, 71]))
  (.cond (.tmp 72) (.ghost (.kill [1, 4, 5, 7, 10, 72]) (.seq (.reg [⟨(some 2), .op (.mv (.const (Value.bool false))), none⟩])
  .ret))
  (.ghost (.kill [72]) .skip)))
  (.seq (.post (.reg [⟨(some 74), .op (.load 4 true (.tmp 1)), none⟩,
    ⟨(some 75), .call (.func i_laws_toAlgebra) [(.tmp 74)], none⟩,
    ⟨(some 76), .call (.func i_impl_CheckerOfAlgebra) [(.tmp 75)], none⟩,
    ⟨(some 73), .op (.mv (.tmp 76)), none⟩,
    ⟨(some 77), .op (.ext (.tmp 73) 0), none⟩,
    ⟨(some 78), .op (.ext (.tmp 73) 1), none⟩,
    ⟨(some 12), .op (.alloc (Value.agg #[Value.int .i64 0, Value.int .i64 0, Value.slice none 0 0, Value.slice none 0 0, Value.slice none 0 0, Value.slice none 0 0])), none⟩,
    ⟨none, .op (.store 6 (.tmp 12) (.tmp 77)), none⟩,
    ⟨(some 13), .op (.mv (.tmp 78)), none⟩]) (.kill [1, 73, 74, 75, 76, 77, 78]))
  (.seq (.seq (.post (.reg [⟨(some 79), .op (.load 6 true (.tmp 12)), none⟩,
    ⟨(some 80), .op (.load 6 true (.tmp 4)), none⟩,
    ⟨(some 81), .call (.func i_laws_eqChecker) [(.tmp 79), (.tmp 80)], none⟩,
    ⟨(some 82), .op (.un .not (.tmp 81)), none⟩,
    ⟨(some 83), .op (.mv (.tmp 82)), none⟩,
    ⟨(some 84), .op (.mv (.tmp 13)), some (83, false)⟩,
    ⟨(some 85), .op (.mv (.tmp 5)), some (83, false)⟩,
    ⟨(some 86), .op (.bin .neq (.tmp 84) (.tmp 85)), some (83, false)⟩,
    ⟨(some 87), .op (.pick (.tmp 83) (.const (Value.bool true)) (.tmp 86)), none⟩]) (.kill [4, 5, 12, 13, 79, 80, 81, 82, 83, 84, 85, 86]))
  (.cond (.tmp 87) (.ghost (.kill [7, 10, 87]) (.seq (.reg [⟨(some 2), .op (.mv (.const (Value.bool false))), none⟩])
  .ret))
  (.ghost (.kill [87]) .skip)))
  (.seq (.reg [⟨(some 11), .op (.mv (.const (Value.int .i64 1))), none⟩])
  (.seq (.post (.reg [⟨(some 88), .op (.load 6 true (.tmp 7)), none⟩,
    ⟨(some 89), .op (.mv (.tmp 11)), none⟩,
    ⟨(some 90), .call (.func i_laws_heldChecker) [(.tmp 88), (.tmp 89)], none⟩,
    ⟨(some 11), .op (.mv (.tmp 90)), none⟩]) (.kill [7, 88, 89, 90]))
  (.seq (.seq (.post (.reg [⟨(some 91), .op (.mv (.tmp 11)), none⟩,
    ⟨(some 92), .op (.bin .lss (.tmp 91) (.const (Value.int .i64 0))), none⟩]) (.kill [91]))
  (.cond (.tmp 92) (.ghost (.kill [10, 11, 92]) (.seq (.reg [⟨(some 2), .op (.mv (.const (Value.bool false))), none⟩])
  .ret))
  (.ghost (.kill [92]) .skip)))
  (.seq (.seq (.post (.reg [⟨(some 93), .op (.mv (.tmp 11)), none⟩,
    ⟨(some 94), .op (.mv (.tmp 10)), none⟩,
    ⟨(some 95), .op (.bin .neq (.tmp 93) (.tmp 94)), none⟩]) (.kill [10, 11, 93, 94]))
  (.cond (.tmp 95) (.ghost (.kill [95]) (.seq (.reg [⟨(some 2), .op (.mv (.const (Value.bool false))), none⟩])
  .ret))
  (.ghost (.kill [95]) .skip)))
  (.seq (.reg [⟨(some 2), .op (.mv (.const (Value.bool true))), none⟩])
  .ret)))))))))))))))))))))))))
theorem cf_laws_FnExactCheckerOfAlgebra : chkFn Try.prog i_laws_FnExactCheckerOfAlgebra ac_laws_FnExactCheckerOfAlgebra [.tmp 2] 96 = true := by decide +kernel
def fa_laws_FnExactCheckerOfAlgebra : FnA := ⟨ac_laws_FnExactCheckerOfAlgebra, [.tmp 2], 96, false, true, [], .any, none⟩

end Go.Proofs.Ytegjfjckijmgcaa
