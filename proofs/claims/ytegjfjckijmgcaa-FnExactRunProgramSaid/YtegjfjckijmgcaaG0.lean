/- The code of the functions, checked against the loaded program; printed by a program (gen2.py). -/
import Derived.Test.YtegjfjckijmgcaaProg
import Derived.Test.YtegjfjckijmgcaaAw25
set_option linter.unusedVariables false
set_option maxRecDepth 100000
namespace Go.Proofs.Ytegjfjckijmgcaa
open Aw

/-! The numbers of the functions. -/
def i_laws_FnExactChoicesAt : FuncId := 7
def i_laws_FnExactRunProgram : FuncId := 8
def i_laws_eqInt64S : FuncId := 24
def i_laws_markInt64S : FuncId := 26
def i_laws_heldInt64S : FuncId := 27
def i_laws_eqInt64SS : FuncId := 30
def i_laws_markInt64SS : FuncId := 31
def i_laws_heldInt64SS : FuncId := 32
def i_laws_toInt64S : FuncId := 34
def i_laws_szProgram : FuncId := 36
def i_spec_ChoicesAt : FuncId := 37
def i_laws_toProgram : FuncId := 38
def i_impl_ChoicesAt : FuncId := 39
def i_laws_eqProgram : FuncId := 40
def i_laws_markProgram : FuncId := 41
def i_spec_RunProgram : FuncId := 42
def i_impl_RunProgram : FuncId := 43
def i_laws_eqPlace : FuncId := 44
def i_laws_markPlace : FuncId := 45
def i_laws_heldPlace : FuncId := 46
def i_slices_Clone_L_int64 : FuncId := 96
def i_spec_l00Own : FuncId := 100
def i_spec_l00In : FuncId := 102
def i_laws_szModuleS : FuncId := 110
def i_spec_l07Run : FuncId := 111
def i_spec_l07Can : FuncId := 112
def i_laws_toModuleS : FuncId := 113
def i_impl_Program_run : FuncId := 114
def i_impl_Program_choices : FuncId := 115
def i_laws_eqModuleS : FuncId := 116
def i_laws_markModuleS : FuncId := 117
def i_spec_l01Call : FuncId := 118
def i_spec_l01Return : FuncId := 119
def i_impl_isCall : FuncId := 121
def i_impl_isReturn : FuncId := 122
def i_impl_within : FuncId := 178
def i_laws_szModule : FuncId := 192
def i_spec_l07Ok : FuncId := 193
def i_spec_l07Make : FuncId := 194
def i_spec_l07Exit : FuncId := 195
def i_laws_toModule : FuncId := 196
def i_impl_ValidProgram : FuncId := 197
def i_slices_Contains_L_int64 : FuncId := 198
def i_impl_Program_choose : FuncId := 199
def i_impl_Program_exit : FuncId := 200
def i_laws_eqModule : FuncId := 201
def i_laws_markLinkS : FuncId := 202
def i_laws_szLinkS : FuncId := 246
def i_spec_l06Brackets : FuncId := 247
def i_spec_l07Inner : FuncId := 248
def i_laws_toLinkS : FuncId := 249
def i_impl_size_impl_Module : FuncId := 250
def i_slices_ContainsFunc_L_impl_Module : FuncId := 251
def i_impl_ValidProgram_1 : FuncId := 252
def i_slices_ContainsFunc_L_impl_Link : FuncId := 253
def i_impl_ValidProgram_1_1 : FuncId := 254
def i_impl_isBrackets : FuncId := 255
def i_impl_isLetter : FuncId := 256
def i_slices_Index_L_int64 : FuncId := 257
def i_impl_Link_isCallLink : FuncId := 258
def i_slices_Clip_L_L_int64 : FuncId := 259
def i_laws_eqLinkS : FuncId := 260
def i_laws_markText : FuncId := 261
def i_laws_szLink : FuncId := 279
def i_laws_toLink : FuncId := 280
def i_slices_IndexFunc_L_impl_Module : FuncId := 281
def i_slices_IndexFunc_L_impl_Link : FuncId := 282
def i_laws_eqLink : FuncId := 283

/-- The checked code of laws eqInt64S. -/
def lb_laws_eqInt64S_0 : AC := (.seq (.seq (.post (.reg [⟨(some 11), .op (.mv (.tmp 5)), none⟩,
    ⟨(some 12), .op (.mv (.tmp 0)), none⟩,
    ⟨(some 13), .op (.len false (.tmp 12)), none⟩,
    ⟨(some 14), .op (.bin .lss (.tmp 11) (.tmp 13)), none⟩]) (.kill [11, 12, 13]))
  (.cond (.tmp 14) (.ghost (.kill [14]) .skip)
  (.ghost (.kill [0, 1, 5, 14]) (.exit 0))))
  (.seq (.block 1 (.seq (.post (.draw [⟨0, ⟨(some 17), .op (.mv (.tmp 0)), none⟩, []⟩,
    ⟨1, ⟨(some 18), .op (.mv (.tmp 5)), none⟩, []⟩,
    ⟨2, ⟨(some 19), .op (.iaddrS (.tmp 17) (.tmp 18) 1), none⟩, []⟩,
    ⟨3, ⟨(some 20), .op (.load 1 false (.tmp 19)), none⟩, []⟩,
    ⟨4, ⟨(some 21), .op (.mv (.tmp 1)), none⟩, []⟩,
    ⟨5, ⟨(some 22), .op (.mv (.tmp 5)), none⟩, []⟩,
    ⟨6, ⟨(some 23), .op (.iaddrS (.tmp 21) (.tmp 22) 1), none⟩, []⟩,
    ⟨7, ⟨(some 24), .op (.load 1 false (.tmp 23)), none⟩, []⟩,
    ⟨8, ⟨(some 25), .op (.bin .neq (.tmp 20) (.tmp 24)), none⟩, []⟩]
    [0, 0, 3, 7, 0, 0, 48, 112, 255]) (.kill [17, 18, 19, 20, 21, 22, 23, 24]))
  (.cond (.tmp 25) (.ghost (.kill [0, 1, 5, 25]) (.seq (.reg [⟨(some 4), .op (.mv (.const (Value.bool false))), none⟩])
  .ret))
  (.ghost (.kill [25]) .skip))))
  (.post (.reg [⟨(some 15), .op (.mv (.tmp 5)), none⟩,
    ⟨(some 16), .op (.bin .add (.tmp 15) (.const (Value.int .i64 1))), none⟩,
    ⟨(some 5), .op (.mv (.tmp 16)), none⟩]) (.kill [15, 16]))))
def lo_laws_eqInt64S_0 : AC := (.loop lb_laws_eqInt64S_0)
def ac_laws_eqInt64S : AC := (.seq (.post (.reg [⟨(some 4), .op (.mv (.const (Value.bool false))), none⟩]) (.kill [4]))
  (.seq (.seq (.post (.reg [⟨(some 6), .op (.mv (.tmp 0)), none⟩,
    ⟨(some 7), .op (.len false (.tmp 6)), none⟩,
    ⟨(some 8), .op (.mv (.tmp 1)), none⟩,
    ⟨(some 9), .op (.len false (.tmp 8)), none⟩,
    ⟨(some 10), .op (.bin .neq (.tmp 7) (.tmp 9)), none⟩]) (.kill [6, 7, 8, 9]))
  (.cond (.tmp 10) (.ghost (.kill [0, 1, 10]) (.seq (.reg [⟨(some 4), .op (.mv (.const (Value.bool false))), none⟩])
  .ret))
  (.ghost (.kill [10]) .skip)))
  (.seq (.seq (.reg [⟨(some 5), .op (.mv (.const (Value.int .i64 0))), none⟩])
  (.block 0 lo_laws_eqInt64S_0))
  (.ghost (.kill [0, 1, 5]) (.seq (.reg [⟨(some 4), .op (.mv (.const (Value.bool true))), none⟩])
  .ret)))))
theorem cf_laws_eqInt64S : chkFn Try.prog i_laws_eqInt64S ac_laws_eqInt64S [.tmp 4] 26 = true := by decide +kernel
def fa_laws_eqInt64S : FnA := ⟨ac_laws_eqInt64S, [.tmp 4], 26, false, true, [(.lst 1 .any), (.lst 1 .any)], .any, none⟩

/-- The checked code of laws markInt64S. -/
def lb_laws_markInt64S_0 : AC := (.seq (.seq (.post (.reg [⟨(some 6), .op (.mv (.tmp 5)), none⟩,
    ⟨(some 7), .op (.mv (.tmp 0)), none⟩,
    ⟨(some 8), .op (.len false (.tmp 7)), none⟩,
    ⟨(some 9), .op (.bin .lss (.tmp 6) (.tmp 8)), none⟩]) (.kill [6, 7, 8]))
  (.cond (.tmp 9) (.ghost (.kill [9]) .skip)
  (.ghost (.kill [0, 5, 9]) (.exit 0))))
  (.seq (.block 1 (.seq (.post (.reg [⟨(some 12), .op (.mv (.tmp 0)), none⟩,
    ⟨(some 13), .op (.mv (.tmp 5)), none⟩,
    ⟨(some 14), .op (.mv (.tmp 1)), none⟩,
    ⟨(some 15), .op (.iaddrS (.tmp 12) (.tmp 13) 1), none⟩,
    ⟨none, .op (.store 1 (.tmp 15) (.tmp 14)), none⟩]) (.kill [12, 13, 14, 15]))
  (.post (.reg [⟨(some 16), .op (.mv (.tmp 1)), none⟩,
    ⟨(some 17), .op (.bin .add (.tmp 16) (.const (Value.int .i64 1))), none⟩,
    ⟨(some 1), .op (.mv (.tmp 17)), none⟩]) (.kill [16, 17]))))
  (.post (.reg [⟨(some 10), .op (.mv (.tmp 5)), none⟩,
    ⟨(some 11), .op (.bin .add (.tmp 10) (.const (Value.int .i64 1))), none⟩,
    ⟨(some 5), .op (.mv (.tmp 11)), none⟩]) (.kill [10, 11]))))
def lo_laws_markInt64S_0 : AC := (.loop lb_laws_markInt64S_0)
def ac_laws_markInt64S : AC := (.seq (.post (.reg [⟨(some 4), .op (.mv (.const (Value.int .i64 0))), none⟩]) (.kill [4]))
  (.seq (.seq (.reg [⟨(some 5), .op (.mv (.const (Value.int .i64 0))), none⟩])
  (.block 0 lo_laws_markInt64S_0))
  (.ghost (.kill [0, 5]) (.seq (.post (.reg [⟨(some 18), .op (.mv (.tmp 1)), none⟩,
    ⟨(some 4), .op (.mv (.tmp 18)), none⟩]) (.kill [1, 18]))
  .ret))))
theorem cf_laws_markInt64S : chkFn Try.prog i_laws_markInt64S ac_laws_markInt64S [.tmp 4] 19 = true := by decide +kernel
def fa_laws_markInt64S : FnA := ⟨ac_laws_markInt64S, [.tmp 4], 19, true, false, [], .any, none⟩

/-- The checked code of laws heldInt64S. -/
def lb_laws_heldInt64S_0 : AC := (.seq (.seq (.post (.reg [⟨(some 6), .op (.mv (.tmp 5)), none⟩,
    ⟨(some 7), .op (.mv (.tmp 0)), none⟩,
    ⟨(some 8), .op (.len false (.tmp 7)), none⟩,
    ⟨(some 9), .op (.bin .lss (.tmp 6) (.tmp 8)), none⟩]) (.kill [6, 7, 8]))
  (.cond (.tmp 9) (.ghost (.kill [9]) .skip)
  (.ghost (.kill [0, 5, 9]) (.exit 0))))
  (.seq (.block 1 (.seq (.seq (.post (.reg [⟨(some 12), .op (.mv (.tmp 0)), none⟩,
    ⟨(some 13), .op (.mv (.tmp 5)), none⟩,
    ⟨(some 14), .op (.iaddrS (.tmp 12) (.tmp 13) 1), none⟩,
    ⟨(some 15), .op (.load 1 false (.tmp 14)), none⟩,
    ⟨(some 16), .op (.mv (.tmp 1)), none⟩,
    ⟨(some 17), .op (.bin .neq (.tmp 15) (.tmp 16)), none⟩]) (.kill [12, 13, 14, 15, 16]))
  (.cond (.tmp 17) (.ghost (.kill [0, 1, 5, 17]) (.seq (.reg [⟨(some 4), .op (.mv (.const (Value.int .i64 (-1)))), none⟩])
  .ret))
  (.ghost (.kill [17]) .skip)))
  (.post (.reg [⟨(some 18), .op (.mv (.tmp 1)), none⟩,
    ⟨(some 19), .op (.bin .add (.tmp 18) (.const (Value.int .i64 1))), none⟩,
    ⟨(some 1), .op (.mv (.tmp 19)), none⟩]) (.kill [18, 19]))))
  (.post (.reg [⟨(some 10), .op (.mv (.tmp 5)), none⟩,
    ⟨(some 11), .op (.bin .add (.tmp 10) (.const (Value.int .i64 1))), none⟩,
    ⟨(some 5), .op (.mv (.tmp 11)), none⟩]) (.kill [10, 11]))))
def lo_laws_heldInt64S_0 : AC := (.loop lb_laws_heldInt64S_0)
def ac_laws_heldInt64S : AC := (.seq (.post (.reg [⟨(some 4), .op (.mv (.const (Value.int .i64 0))), none⟩]) (.kill [4]))
  (.seq (.seq (.reg [⟨(some 5), .op (.mv (.const (Value.int .i64 0))), none⟩])
  (.block 0 lo_laws_heldInt64S_0))
  (.ghost (.kill [0, 5]) (.seq (.post (.reg [⟨(some 20), .op (.mv (.tmp 1)), none⟩,
    ⟨(some 4), .op (.mv (.tmp 20)), none⟩]) (.kill [1, 20]))
  .ret))))
theorem cf_laws_heldInt64S : chkFn Try.prog i_laws_heldInt64S ac_laws_heldInt64S [.tmp 4] 21 = true := by decide +kernel
def fa_laws_heldInt64S : FnA := ⟨ac_laws_heldInt64S, [.tmp 4], 21, false, true, [(.lst 1 .any), .any], .any, none⟩

/-- The checked code of laws toInt64S. -/
def lb_laws_toInt64S_0 : AC := (.seq (.seq (.post (.reg [⟨(some 8), .op (.mv (.tmp 4)), none⟩,
    ⟨(some 9), .op (.mv (.tmp 0)), none⟩,
    ⟨(some 10), .op (.len false (.tmp 9)), none⟩,
    ⟨(some 11), .op (.bin .lss (.tmp 8) (.tmp 10)), none⟩]) (.kill [8, 9, 10]))
  (.cond (.tmp 11) (.ghost (.kill [11]) .skip)
  (.ghost (.kill [0, 4, 11]) (.exit 0))))
  (.seq (.block 1 (.post (.reg [⟨(some 14), .op (.mv (.tmp 3)), none⟩,
    ⟨(some 15), .op (.mv (.tmp 4)), none⟩,
    ⟨(some 16), .op (.mv (.tmp 0)), none⟩,
    ⟨(some 17), .op (.mv (.tmp 4)), none⟩,
    ⟨(some 18), .op (.iaddrS (.tmp 16) (.tmp 17) 1), none⟩,
    ⟨(some 19), .op (.load 1 false (.tmp 18)), none⟩,
    ⟨(some 20), .op (.iaddrS (.tmp 14) (.tmp 15) 1), none⟩,
    ⟨none, .op (.store 1 (.tmp 20) (.tmp 19)), none⟩]) (.kill [14, 15, 16, 17, 18, 19, 20])))
  (.post (.reg [⟨(some 12), .op (.mv (.tmp 4)), none⟩,
    ⟨(some 13), .op (.bin .add (.tmp 12) (.const (Value.int .i64 1))), none⟩,
    ⟨(some 4), .op (.mv (.tmp 13)), none⟩]) (.kill [12, 13]))))
def lo_laws_toInt64S_0 : AC := (.loop lb_laws_toInt64S_0)
def ac_laws_toInt64S : AC := (.seq (.post (.reg [⟨(some 2), .op (.mv (.const (Value.slice none 0 0))), none⟩]) (.kill [2]))
  (.seq (.post (.reg [⟨(some 5), .op (.mv (.tmp 0)), none⟩,
    ⟨(some 6), .op (.len false (.tmp 5)), none⟩,
    ⟨(some 7), .op (.make (.tmp 6) (.tmp 6) 1 8 (Value.int .i64 0)), none⟩,
    ⟨(some 3), .op (.mv (.tmp 7)), none⟩]) (.kill [5, 6, 7]))
  (.seq (.seq (.reg [⟨(some 4), .op (.mv (.const (Value.int .i64 0))), none⟩])
  (.block 0 lo_laws_toInt64S_0))
  (.ghost (.kill [0, 4]) (.seq (.post (.reg [⟨(some 21), .op (.mv (.tmp 3)), none⟩,
    ⟨(some 2), .op (.mv (.tmp 21)), none⟩]) (.kill [3, 21]))
  .ret)))))
theorem cf_laws_toInt64S : chkFn Try.prog i_laws_toInt64S ac_laws_toInt64S [.tmp 2] 22 = true := by decide +kernel
def fa_laws_toInt64S : FnA := ⟨ac_laws_toInt64S, [.tmp 2], 22, false, false, [], .any, none⟩

/-- The checked code of laws szLink. -/
def ac_laws_szLink : AC := (.seq (.post (.reg [⟨(some 2), .op (.box true (.tmp 0)), none⟩,
    ⟨(some 4), .op (.mv (.const (Value.int .i64 0))), none⟩]) (.kill [0, 4]))
  (.seq (.post (.reg [⟨(some 5), .op (.mv (.tmp 1)), none⟩,
    ⟨(some 6), .op (.faddr (.tmp 2) 2), none⟩,
    ⟨(some 7), .op (.load 1 false (.tmp 6)), none⟩,
    ⟨(some 8), .op (.len true (.tmp 7)), none⟩,
    ⟨(some 9), .op (.bin .sub (.tmp 5) (.tmp 8)), none⟩,
    ⟨(some 1), .op (.mv (.tmp 9)), none⟩]) (.kill [2, 5, 6, 7, 8, 9]))
  (.seq (.seq (.post (.reg [⟨(some 10), .op (.mv (.tmp 1)), none⟩,
    ⟨(some 11), .op (.bin .lss (.tmp 10) (.const (Value.int .i64 0))), none⟩]) (.kill [10]))
  (.cond (.tmp 11) (.ghost (.kill [1, 11]) (.seq (.reg [⟨(some 4), .op (.mv (.const (Value.int .i64 (-1)))), none⟩])
  .ret))
  (.ghost (.kill [11]) .skip)))
  (.seq (.post (.reg [⟨(some 12), .op (.mv (.tmp 1)), none⟩,
    ⟨(some 4), .op (.mv (.tmp 12)), none⟩]) (.kill [1, 12]))
  .ret))))
theorem cf_laws_szLink : chkFn Try.prog i_laws_szLink ac_laws_szLink [.tmp 4] 13 = true := by decide +kernel
def fa_laws_szLink : FnA := ⟨ac_laws_szLink, [.tmp 4], 13, false, true, [], .any, none⟩

/-- The checked code of laws szLinkS. -/
def lb_laws_szLinkS_0 : AC := (.seq (.seq (.post (.reg [⟨(some 12), .op (.mv (.tmp 5)), none⟩,
    ⟨(some 13), .op (.mv (.tmp 0)), none⟩,
    ⟨(some 14), .op (.len false (.tmp 13)), none⟩,
    ⟨(some 15), .op (.bin .lss (.tmp 12) (.tmp 14)), none⟩]) (.kill [12, 13, 14]))
  (.cond (.tmp 15) (.ghost (.kill [15]) .skip)
  (.ghost (.kill [0, 5, 15]) (.exit 0))))
  (.seq (.block 1 (.seq (.post (.reg [⟨(some 18), .op (.mv (.tmp 0)), none⟩,
    ⟨(some 19), .op (.mv (.tmp 5)), none⟩,
    ⟨(some 20), .op (.iaddrS (.tmp 18) (.tmp 19) 4), none⟩,
    ⟨(some 21), .op (.load 4 true (.tmp 20)), none⟩,
    ⟨(some 22), .op (.mv (.tmp 1)), none⟩,
    ⟨(some 23), .call (.func i_laws_szLink) [(.tmp 21), (.tmp 22)], none⟩,
    ⟨(some 1), .op (.mv (.tmp 23)), none⟩]) (.kill [18, 19, 20, 21, 22, 23]))
  (.seq (.post (.reg [⟨(some 24), .op (.mv (.tmp 1)), none⟩,
    ⟨(some 25), .op (.bin .lss (.tmp 24) (.const (Value.int .i64 0))), none⟩]) (.kill [24]))
  (.cond (.tmp 25) (.ghost (.kill [0, 1, 5, 25]) (.seq (.reg [⟨(some 4), .op (.mv (.const (Value.int .i64 (-1)))), none⟩])
  .ret))
  (.ghost (.kill [25]) .skip)))))
  (.post (.reg [⟨(some 16), .op (.mv (.tmp 5)), none⟩,
    ⟨(some 17), .op (.bin .add (.tmp 16) (.const (Value.int .i64 1))), none⟩,
    ⟨(some 5), .op (.mv (.tmp 17)), none⟩]) (.kill [16, 17]))))
def lo_laws_szLinkS_0 : AC := (.loop lb_laws_szLinkS_0)
def ac_laws_szLinkS : AC := (.seq (.post (.reg [⟨(some 4), .op (.mv (.const (Value.int .i64 0))), none⟩]) (.kill [4]))
  (.seq (.post (.reg [⟨(some 6), .op (.mv (.tmp 1)), none⟩,
    ⟨(some 7), .op (.mv (.tmp 0)), none⟩,
    ⟨(some 8), .op (.len false (.tmp 7)), none⟩,
    ⟨(some 9), .op (.bin .sub (.tmp 6) (.tmp 8)), none⟩,
    ⟨(some 1), .op (.mv (.tmp 9)), none⟩]) (.kill [6, 7, 8, 9]))
  (.seq (.seq (.post (.reg [⟨(some 10), .op (.mv (.tmp 1)), none⟩,
    ⟨(some 11), .op (.bin .lss (.tmp 10) (.const (Value.int .i64 0))), none⟩]) (.kill [10]))
  (.cond (.tmp 11) (.ghost (.kill [0, 1, 11]) (.seq (.reg [⟨(some 4), .op (.mv (.const (Value.int .i64 (-1)))), none⟩])
  .ret))
  (.ghost (.kill [11]) .skip)))
  (.seq (.seq (.reg [⟨(some 5), .op (.mv (.const (Value.int .i64 0))), none⟩])
  (.block 0 lo_laws_szLinkS_0))
  (.ghost (.kill [0, 5]) (.seq (.post (.reg [⟨(some 26), .op (.mv (.tmp 1)), none⟩,
    ⟨(some 4), .op (.mv (.tmp 26)), none⟩]) (.kill [1, 26]))
  .ret))))))
theorem cf_laws_szLinkS : chkFn Try.prog i_laws_szLinkS ac_laws_szLinkS [.tmp 4] 27 = true := by decide +kernel
def fa_laws_szLinkS : FnA := ⟨ac_laws_szLinkS, [.tmp 4], 27, false, true, [], .any, none⟩

/-- The checked code of laws szModule. -/
def ac_laws_szModule : AC := (.seq (.post (.reg [⟨(some 2), .op (.box true (.tmp 0)), none⟩,
    ⟨(some 4), .op (.mv (.const (Value.int .i64 0))), none⟩]) (.kill [0, 4]))
  (.seq (.post (.reg [⟨(some 5), .op (.faddr (.tmp 2) 1), none⟩,
    ⟨(some 6), .op (.load 1 false (.tmp 5)), none⟩,
    ⟨(some 7), .op (.mv (.tmp 1)), none⟩,
    ⟨(some 8), .call (.func i_laws_szLinkS) [(.tmp 6), (.tmp 7)], none⟩,
    ⟨(some 1), .op (.mv (.tmp 8)), none⟩]) (.kill [2, 5, 6, 7, 8]))
  (.seq (.seq (.post (.reg [⟨(some 9), .op (.mv (.tmp 1)), none⟩,
    ⟨(some 10), .op (.bin .lss (.tmp 9) (.const (Value.int .i64 0))), none⟩]) (.kill [9]))
  (.cond (.tmp 10) (.ghost (.kill [1, 10]) (.seq (.reg [⟨(some 4), .op (.mv (.const (Value.int .i64 (-1)))), none⟩])
  .ret))
  (.ghost (.kill [10]) .skip)))
  (.seq (.post (.reg [⟨(some 11), .op (.mv (.tmp 1)), none⟩,
    ⟨(some 4), .op (.mv (.tmp 11)), none⟩]) (.kill [1, 11]))
  .ret))))
theorem cf_laws_szModule : chkFn Try.prog i_laws_szModule ac_laws_szModule [.tmp 4] 12 = true := by decide +kernel
def fa_laws_szModule : FnA := ⟨ac_laws_szModule, [.tmp 4], 12, false, true, [], .any, none⟩

/-- The checked code of laws szModuleS. -/
def lb_laws_szModuleS_0 : AC := (.seq (.seq (.post (.reg [⟨(some 12), .op (.mv (.tmp 5)), none⟩,
    ⟨(some 13), .op (.mv (.tmp 0)), none⟩,
    ⟨(some 14), .op (.len false (.tmp 13)), none⟩,
    ⟨(some 15), .op (.bin .lss (.tmp 12) (.tmp 14)), none⟩]) (.kill [12, 13, 14]))
  (.cond (.tmp 15) (.ghost (.kill [15]) .skip)
  (.ghost (.kill [0, 5, 15]) (.exit 0))))
  (.seq (.block 1 (.seq (.post (.reg [⟨(some 18), .op (.mv (.tmp 0)), none⟩,
    ⟨(some 19), .op (.mv (.tmp 5)), none⟩,
    ⟨(some 20), .op (.iaddrS (.tmp 18) (.tmp 19) 2), none⟩,
    ⟨(some 21), .op (.load 2 true (.tmp 20)), none⟩,
    ⟨(some 22), .op (.mv (.tmp 1)), none⟩,
    ⟨(some 23), .call (.func i_laws_szModule) [(.tmp 21), (.tmp 22)], none⟩,
    ⟨(some 1), .op (.mv (.tmp 23)), none⟩]) (.kill [18, 19, 20, 21, 22, 23]))
  (.seq (.post (.reg [⟨(some 24), .op (.mv (.tmp 1)), none⟩,
    ⟨(some 25), .op (.bin .lss (.tmp 24) (.const (Value.int .i64 0))), none⟩]) (.kill [24]))
  (.cond (.tmp 25) (.ghost (.kill [0, 1, 5, 25]) (.seq (.reg [⟨(some 4), .op (.mv (.const (Value.int .i64 (-1)))), none⟩])
  .ret))
  (.ghost (.kill [25]) .skip)))))
  (.post (.reg [⟨(some 16), .op (.mv (.tmp 5)), none⟩,
    ⟨(some 17), .op (.bin .add (.tmp 16) (.const (Value.int .i64 1))), none⟩,
    ⟨(some 5), .op (.mv (.tmp 17)), none⟩]) (.kill [16, 17]))))
def lo_laws_szModuleS_0 : AC := (.loop lb_laws_szModuleS_0)
def ac_laws_szModuleS : AC := (.seq (.post (.reg [⟨(some 4), .op (.mv (.const (Value.int .i64 0))), none⟩]) (.kill [4]))
  (.seq (.post (.reg [⟨(some 6), .op (.mv (.tmp 1)), none⟩,
    ⟨(some 7), .op (.mv (.tmp 0)), none⟩,
    ⟨(some 8), .op (.len false (.tmp 7)), none⟩,
    ⟨(some 9), .op (.bin .sub (.tmp 6) (.tmp 8)), none⟩,
    ⟨(some 1), .op (.mv (.tmp 9)), none⟩]) (.kill [6, 7, 8, 9]))
  (.seq (.seq (.post (.reg [⟨(some 10), .op (.mv (.tmp 1)), none⟩,
    ⟨(some 11), .op (.bin .lss (.tmp 10) (.const (Value.int .i64 0))), none⟩]) (.kill [10]))
  (.cond (.tmp 11) (.ghost (.kill [0, 1, 11]) (.seq (.reg [⟨(some 4), .op (.mv (.const (Value.int .i64 (-1)))), none⟩])
  .ret))
  (.ghost (.kill [11]) .skip)))
  (.seq (.seq (.reg [⟨(some 5), .op (.mv (.const (Value.int .i64 0))), none⟩])
  (.block 0 lo_laws_szModuleS_0))
  (.ghost (.kill [0, 5]) (.seq (.post (.reg [⟨(some 26), .op (.mv (.tmp 1)), none⟩,
    ⟨(some 4), .op (.mv (.tmp 26)), none⟩]) (.kill [1, 26]))
  .ret))))))
theorem cf_laws_szModuleS : chkFn Try.prog i_laws_szModuleS ac_laws_szModuleS [.tmp 4] 27 = true := by decide +kernel
def fa_laws_szModuleS : FnA := ⟨ac_laws_szModuleS, [.tmp 4], 27, false, true, [], .any, none⟩

/-- The checked code of laws szProgram. -/
def ac_laws_szProgram : AC := (.seq (.post (.reg [⟨(some 2), .op (.box true (.tmp 0)), none⟩,
    ⟨(some 4), .op (.mv (.const (Value.int .i64 0))), none⟩]) (.kill [0, 4]))
  (.seq (.post (.reg [⟨(some 5), .op (.faddr (.tmp 2) 0), none⟩,
    ⟨(some 6), .op (.load 1 false (.tmp 5)), none⟩,
    ⟨(some 7), .op (.mv (.tmp 1)), none⟩,
    ⟨(some 8), .call (.func i_laws_szModuleS) [(.tmp 6), (.tmp 7)], none⟩,
    ⟨(some 1), .op (.mv (.tmp 8)), none⟩]) (.kill [2, 5, 6, 7, 8]))
  (.seq (.seq (.post (.reg [⟨(some 9), .op (.mv (.tmp 1)), none⟩,
    ⟨(some 10), .op (.bin .lss (.tmp 9) (.const (Value.int .i64 0))), none⟩]) (.kill [9]))
  (.cond (.tmp 10) (.ghost (.kill [1, 10]) (.seq (.reg [⟨(some 4), .op (.mv (.const (Value.int .i64 (-1)))), none⟩])
  .ret))
  (.ghost (.kill [10]) .skip)))
  (.seq (.post (.reg [⟨(some 11), .op (.mv (.tmp 1)), none⟩,
    ⟨(some 4), .op (.mv (.tmp 11)), none⟩]) (.kill [1, 11]))
  .ret))))
theorem cf_laws_szProgram : chkFn Try.prog i_laws_szProgram ac_laws_szProgram [.tmp 4] 12 = true := by decide +kernel
def fa_laws_szProgram : FnA := ⟨ac_laws_szProgram, [.tmp 4], 12, false, true, [], .any, none⟩

/-- The checked code of spec l00In. -/
def ac_spec_l00In : AC := (.seq (.post (.reg [⟨(some 6), .op (.mv (.const (Value.bool false))), none⟩]) (.kill [6]))
  (.seq (.post (.reg [⟨(some 7), .op (.mv (.tmp 0)), none⟩,
    ⟨(some 8), .op (.mv (.tmp 1)), none⟩,
    ⟨(some 9), .op (.bin .geq (.tmp 7) (.tmp 8)), none⟩,
    ⟨(some 10), .op (.mv (.tmp 9)), none⟩,
    ⟨(some 11), .op (.mv (.tmp 0)), some (10, true)⟩,
    ⟨(some 12), .op (.mv (.tmp 2)), some (10, true)⟩,
    ⟨(some 13), .op (.bin .leq (.tmp 11) (.tmp 12)), some (10, true)⟩,
    ⟨(some 14), .op (.pick (.tmp 10) (.tmp 13) (.const (Value.bool false))), none⟩,
    ⟨(some 6), .op (.mv (.tmp 14)), none⟩]) (.kill [0, 1, 2, 7, 8, 9, 10, 11, 12, 13, 14]))
  .ret))
theorem cf_spec_l00In : chkFn Try.prog i_spec_l00In ac_spec_l00In [.tmp 6] 15 = true := by decide +kernel
def fa_spec_l00In : FnA := ⟨ac_spec_l00In, [.tmp 6], 15, false, true, [], .any, none⟩

/-- The checked code of spec l07Exit. -/
def ac_spec_l07Exit : AC := (.seq (.post (.reg [⟨(some 4), .op (.mv (.const (Value.int .i64 0))), none⟩]) (.kill [4]))
  (.seq (.post (.reg [⟨(some 5), .op (.mv (.tmp 0)), none⟩,
    ⟨(some 6), .op (.nilc (.tmp 5)), none⟩,
    ⟨(some 7), .op (.faddr (.tmp 6) 0), none⟩,
    ⟨(some 8), .op (.load 1 false (.tmp 7)), none⟩,
    ⟨(some 9), .op (.mv (.tmp 1)), none⟩,
    ⟨(some 10), .op (.iaddrS (.tmp 8) (.tmp 9) 2), none⟩,
    ⟨(some 11), .op (.faddr (.tmp 10) 0), none⟩,
    ⟨(some 12), .op (.load 1 false (.tmp 11)), none⟩,
    ⟨(some 13), .op (.bin .sub (.tmp 12) (.const (Value.int .i64 1))), none⟩,
    ⟨(some 4), .op (.mv (.tmp 13)), none⟩]) (.kill [0, 1, 5, 6, 7, 8, 9, 10, 11, 12, 13]))
  .ret))
theorem cf_spec_l07Exit : chkFn Try.prog i_spec_l07Exit ac_spec_l07Exit [.tmp 4] 14 = true := by decide +kernel
def fa_spec_l07Exit : FnA := ⟨ac_spec_l07Exit, [.tmp 4], 14, false, true, [], .any, none⟩

/-- The checked code of spec l07Can. -/
def ac_spec_l07Can : AC := (.seq (.post (.reg [⟨(some 6), .op (.mv (.const (Value.bool false))), none⟩]) (.kill [6]))
  (.seq (.post (.draw [⟨0, ⟨(some 8), .op (.mv (.tmp 0)), none⟩, []⟩,
    ⟨1, ⟨(some 9), .op (.nilc (.tmp 8)), none⟩, []⟩,
    ⟨2, ⟨(some 10), .op (.faddr (.tmp 9) 0), none⟩, []⟩,
    ⟨3, ⟨(some 11), .op (.load 1 false (.tmp 10)), none⟩, []⟩,
    ⟨4, ⟨(some 12), .op (.mv (.tmp 1)), none⟩, []⟩,
    ⟨5, ⟨(some 13), .op (.nilc (.tmp 12)), none⟩, []⟩,
    ⟨6, ⟨(some 14), .op (.faddr (.tmp 13) 0), none⟩, []⟩,
    ⟨7, ⟨(some 15), .op (.load 1 false (.tmp 14)), none⟩, []⟩,
    ⟨8, ⟨(some 16), .op (.iaddrS (.tmp 11) (.tmp 15) 2), none⟩, []⟩,
    ⟨9, ⟨(some 17), .op (.faddr (.tmp 16) 1), none⟩, []⟩,
    ⟨10, ⟨(some 18), .op (.load 1 false (.tmp 17)), none⟩, []⟩,
    ⟨11, ⟨(some 7), .op (.mv (.tmp 18)), none⟩, []⟩]
    [0, 1, 3, 7, 0, 16, 48, 112, 255, 511, 1023, 2047]) (.kill [8, 9, 10, 11, 12, 13, 14, 15, 16, 17, 18]))
  (.seq (.seq (.post (.reg [⟨(some 19), .op (.mv (.tmp 2)), none⟩,
    ⟨(some 20), .op (.bin .eql (.tmp 19) (.const (Value.int .i64 (-1)))), none⟩]) (.kill [19]))
  (.cond (.tmp 20) (.ghost (.kill [2, 7, 20]) (.seq (.post (.draw [⟨0, ⟨(some 21), .op (.mv (.tmp 1)), none⟩, []⟩,
    ⟨1, ⟨(some 22), .op (.nilc (.tmp 21)), none⟩, []⟩,
    ⟨2, ⟨(some 23), .op (.faddr (.tmp 22) 1), none⟩, []⟩,
    ⟨3, ⟨(some 24), .op (.load 1 false (.tmp 23)), none⟩, []⟩,
    ⟨4, ⟨(some 25), .op (.mv (.tmp 0)), none⟩, []⟩,
    ⟨5, ⟨(some 26), .op (.mv (.tmp 1)), none⟩, []⟩,
    ⟨6, ⟨(some 27), .op (.nilc (.tmp 26)), none⟩, []⟩,
    ⟨7, ⟨(some 28), .op (.faddr (.tmp 27) 0), none⟩, []⟩,
    ⟨8, ⟨(some 29), .op (.load 1 false (.tmp 28)), none⟩, []⟩,
    ⟨9, ⟨(some 30), .call (.func i_spec_l07Exit) [(.tmp 25), (.tmp 29)], none⟩, [3]⟩,
    ⟨10, ⟨(some 31), .op (.bin .eql (.tmp 24) (.tmp 30)), none⟩, []⟩,
    ⟨11, ⟨(some 32), .op (.mv (.tmp 31)), none⟩, []⟩,
    ⟨12, ⟨(some 33), .op (.mv (.tmp 1)), some (32, true)⟩, []⟩,
    ⟨13, ⟨(some 34), .op (.nilc (.tmp 33)), some (32, true)⟩, []⟩,
    ⟨14, ⟨(some 35), .op (.faddr (.tmp 34) 2), some (32, true)⟩, []⟩,
    ⟨15, ⟨(some 36), .op (.load 1 false (.tmp 35)), some (32, true)⟩, []⟩,
    ⟨16, ⟨(some 37), .op (.len false (.tmp 36)), some (32, true)⟩, []⟩,
    ⟨17, ⟨(some 38), .op (.bin .gtr (.tmp 37) (.const (Value.int .i64 0))), some (32, true)⟩, []⟩,
    ⟨18, ⟨(some 39), .op (.pick (.tmp 32) (.tmp 38) (.const (Value.bool false))), none⟩, []⟩,
    ⟨19, ⟨(some 6), .op (.mv (.tmp 39)), none⟩, []⟩]
    [0, 1, 3, 7, 0, 0, 32, 96, 224, 496, 1023, 2047, 4095, 8191, 16383, 32767, 65535, 131071, 262143, 524287]) (.kill [0, 1, 21, 22, 23, 24, 25, 26, 27, 28, 29, 30, 31, 32, 33, 34, 35, 36, 37, 38, 39]))
  .ret))
  (.ghost (.kill [0, 20]) .skip)))
  (.seq (.post (.draw [⟨0, ⟨(some 40), .op (.mv (.tmp 2)), none⟩, []⟩,
    ⟨1, ⟨(some 41), .op (.mv (.tmp 7)), none⟩, []⟩,
    ⟨2, ⟨(some 42), .op (.len false (.tmp 41)), none⟩, []⟩,
    ⟨3, ⟨(some 43), .op (.bin .sub (.tmp 42) (.const (Value.int .i64 1))), none⟩, []⟩,
    ⟨4, ⟨(some 44), .call (.func i_spec_l00In) [(.tmp 40), (.const (Value.int .i64 0)), (.tmp 43)], none⟩, []⟩,
    ⟨5, ⟨(some 45), .op (.mv (.tmp 44)), none⟩, []⟩,
    ⟨6, ⟨(some 46), .op (.mv (.tmp 7)), some (45, true)⟩, []⟩,
    ⟨7, ⟨(some 47), .op (.mv (.tmp 2)), some (45, true)⟩, []⟩,
    ⟨8, ⟨(some 48), .op (.iaddrS (.tmp 46) (.tmp 47) 4), some (45, true)⟩, []⟩,
    ⟨9, ⟨(some 49), .op (.faddr (.tmp 48) 0), some (45, true)⟩, []⟩,
    ⟨10, ⟨(some 50), .op (.load 1 false (.tmp 49)), some (45, true)⟩, []⟩,
    ⟨11, ⟨(some 51), .op (.mv (.tmp 1)), some (45, true)⟩, []⟩,
    ⟨12, ⟨(some 52), .op (.nilc (.tmp 51)), some (45, true)⟩, []⟩,
    ⟨13, ⟨(some 53), .op (.faddr (.tmp 52) 1), some (45, true)⟩, []⟩,
    ⟨14, ⟨(some 54), .op (.load 1 false (.tmp 53)), some (45, true)⟩, []⟩,
    ⟨15, ⟨(some 55), .op (.bin .eql (.tmp 50) (.tmp 54)), some (45, true)⟩, []⟩,
    ⟨16, ⟨(some 56), .op (.pick (.tmp 45) (.tmp 55) (.const (Value.bool false))), none⟩, []⟩,
    ⟨17, ⟨(some 6), .op (.mv (.tmp 56)), none⟩, []⟩]
    [0, 0, 2, 6, 15, 31, 63, 63, 255, 511, 1023, 63, 2111, 6207, 14399, 32767, 65535, 131071]) (.kill [1, 2, 7, 40, 41, 42, 43, 44, 45, 46, 47, 48, 49, 50, 51, 52, 53, 54, 55, 56]))
  .ret))))
theorem cf_spec_l07Can : chkFn Try.prog i_spec_l07Can ac_spec_l07Can [.tmp 6] 57 = true := by decide +kernel
def fa_spec_l07Can : FnA := ⟨ac_spec_l07Can, [.tmp 6], 57, false, true, [], .any, none⟩

/-- The checked code of spec l01Call. -/
def ac_spec_l01Call : AC := (.seq (.post (.reg [⟨(some 2), .op (.mv (.const (Value.bool false))), none⟩]) (.kill [2]))
  (.seq (.post (.reg [⟨(some 3), .op (.mv (.tmp 0)), none⟩,
    ⟨(some 4), .op (.bin .eql (.tmp 3) (.const (Value.int .u8 40))), none⟩,
    ⟨(some 5), .op (.mv (.tmp 4)), none⟩,
    ⟨(some 6), .op (.mv (.tmp 0)), some (5, false)⟩,
    ⟨(some 7), .op (.bin .eql (.tmp 6) (.const (Value.int .u8 91))), some (5, false)⟩,
    ⟨(some 8), .op (.pick (.tmp 5) (.const (Value.bool true)) (.tmp 7)), none⟩,
    ⟨(some 2), .op (.mv (.tmp 8)), none⟩]) (.kill [0, 3, 4, 5, 6, 7, 8]))
  .ret))
theorem cf_spec_l01Call : chkFn Try.prog i_spec_l01Call ac_spec_l01Call [.tmp 2] 9 = true := by decide +kernel
def fa_spec_l01Call : FnA := ⟨ac_spec_l01Call, [.tmp 2], 9, false, true, [], .any, none⟩

/-- The checked code of spec l01Return. -/
def ac_spec_l01Return : AC := (.seq (.post (.reg [⟨(some 2), .op (.mv (.const (Value.bool false))), none⟩]) (.kill [2]))
  (.seq (.post (.reg [⟨(some 3), .op (.mv (.tmp 0)), none⟩,
    ⟨(some 4), .op (.bin .eql (.tmp 3) (.const (Value.int .u8 41))), none⟩,
    ⟨(some 5), .op (.mv (.tmp 4)), none⟩,
    ⟨(some 6), .op (.mv (.tmp 0)), some (5, false)⟩,
    ⟨(some 7), .op (.bin .eql (.tmp 6) (.const (Value.int .u8 93))), some (5, false)⟩,
    ⟨(some 8), .op (.pick (.tmp 5) (.const (Value.bool true)) (.tmp 7)), none⟩,
    ⟨(some 2), .op (.mv (.tmp 8)), none⟩]) (.kill [0, 3, 4, 5, 6, 7, 8]))
  .ret))
theorem cf_spec_l01Return : chkFn Try.prog i_spec_l01Return ac_spec_l01Return [.tmp 2] 9 = true := by decide +kernel
def fa_spec_l01Return : FnA := ⟨ac_spec_l01Return, [.tmp 2], 9, false, true, [], .any, none⟩

/-- The checked code of spec l06Brackets. -/
def ac_spec_l06Brackets : AC := (.seq (.post (.reg [⟨(some 2), .op (.mv (.const (Value.bool false))), none⟩]) (.kill [2]))
  (.seq (.post (.reg [⟨(some 3), .op (.mv (.tmp 0)), none⟩,
    ⟨(some 4), .op (.len true (.tmp 3)), none⟩,
    ⟨(some 5), .op (.bin .eql (.tmp 4) (.const (Value.int .i64 2))), none⟩,
    ⟨(some 6), .op (.mv (.tmp 5)), none⟩,
    ⟨(some 7), .op (.mv (.tmp 0)), some (6, true)⟩,
    ⟨(some 8), .op (.idxStr (.tmp 7) (.const (Value.int .i64 0))), some (6, true)⟩,
    ⟨(some 9), .call (.func i_spec_l01Call) [(.tmp 8)], some (6, true)⟩,
    ⟨(some 10), .op (.pick (.tmp 6) (.tmp 9) (.const (Value.bool false))), none⟩,
    ⟨(some 11), .op (.mv (.tmp 10)), none⟩,
    ⟨(some 12), .op (.mv (.tmp 0)), some (11, true)⟩,
    ⟨(some 13), .op (.idxStr (.tmp 12) (.const (Value.int .i64 1))), some (11, true)⟩,
    ⟨(some 14), .call (.func i_spec_l01Return) [(.tmp 13)], some (11, true)⟩,
    ⟨(some 15), .op (.pick (.tmp 11) (.tmp 14) (.const (Value.bool false))), none⟩,
    ⟨(some 2), .op (.mv (.tmp 15)), none⟩]) (.kill [0, 3, 4, 5, 6, 7, 8, 9, 10, 11, 12, 13, 14, 15]))
  .ret))
theorem cf_spec_l06Brackets : chkFn Try.prog i_spec_l06Brackets ac_spec_l06Brackets [.tmp 2] 16 = true := by decide +kernel
def fa_spec_l06Brackets : FnA := ⟨ac_spec_l06Brackets, [.tmp 2], 16, false, true, [], .any, none⟩

/-- The checked code of spec l07Inner. -/
def ac_spec_l07Inner : AC := (.seq (.post (.reg [⟨(some 2), .op (.mv (.const (Value.bool false))), none⟩]) (.kill [2]))
  (.seq (.post (.reg [⟨(some 3), .op (.mv (.tmp 0)), none⟩,
    ⟨(some 4), .op (.nilc (.tmp 3)), none⟩,
    ⟨(some 5), .op (.faddr (.tmp 4) 2), none⟩,
    ⟨(some 6), .op (.load 1 false (.tmp 5)), none⟩,
    ⟨(some 7), .op (.len true (.tmp 6)), none⟩,
    ⟨(some 8), .op (.bin .eql (.tmp 7) (.const (Value.int .i64 1))), none⟩,
    ⟨(some 2), .op (.mv (.tmp 8)), none⟩]) (.kill [0, 3, 4, 5, 6, 7, 8]))
  .ret))
theorem cf_spec_l07Inner : chkFn Try.prog i_spec_l07Inner ac_spec_l07Inner [.tmp 2] 9 = true := by decide +kernel
def fa_spec_l07Inner : FnA := ⟨ac_spec_l07Inner, [.tmp 2], 9, false, true, [], .any, none⟩

/-- The checked code of spec l07Ok. -/
def lb_spec_l07Ok_0 : AC := (.seq (.seq (.post (.reg [⟨(some 41), .op (.mv (.tmp 6)), none⟩,
    ⟨(some 42), .op (.mv (.tmp 5)), none⟩,
    ⟨(some 43), .op (.nilc (.tmp 42)), none⟩,
    ⟨(some 44), .op (.faddr (.tmp 43) 1), none⟩,
    ⟨(some 45), .op (.load 1 false (.tmp 44)), none⟩,
    ⟨(some 46), .op (.len false (.tmp 45)), none⟩,
    ⟨(some 47), .op (.bin .lss (.tmp 41) (.tmp 46)), none⟩]) (.kill [41, 42, 43, 44, 45, 46]))
  (.cond (.tmp 47) (.ghost (.kill [47]) .skip)
  (.ghost (.kill [5, 6, 47]) (.exit 2))))
  (.seq (.block 3 (.seq (.post (.reg [⟨(some 50), .op (.mv (.tmp 5)), none⟩,
    ⟨(some 51), .op (.nilc (.tmp 50)), none⟩,
    ⟨(some 52), .op (.faddr (.tmp 51) 1), none⟩,
    ⟨(some 53), .op (.load 1 false (.tmp 52)), none⟩,
    ⟨(some 54), .op (.mv (.tmp 6)), none⟩,
    ⟨(some 55), .op (.iaddrS (.tmp 53) (.tmp 54) 4), none⟩,
    ⟨(some 7), .op (.mv (.tmp 55)), none⟩]) (.kill [50, 51, 52, 53, 54, 55]))
  (.seq (.seq (.post (.draw [⟨0, ⟨(some 56), .op (.mv (.tmp 7)), none⟩, []⟩,
    ⟨1, ⟨(some 57), .op (.nilc (.tmp 56)), none⟩, []⟩,
    ⟨2, ⟨(some 58), .op (.faddr (.tmp 57) 0), none⟩, []⟩,
    ⟨3, ⟨(some 59), .op (.load 1 false (.tmp 58)), none⟩, []⟩,
    ⟨4, ⟨(some 60), .op (.mv (.tmp 5)), none⟩, []⟩,
    ⟨5, ⟨(some 61), .op (.nilc (.tmp 60)), none⟩, []⟩,
    ⟨6, ⟨(some 62), .op (.faddr (.tmp 61) 0), none⟩, []⟩,
    ⟨7, ⟨(some 63), .op (.load 1 false (.tmp 62)), none⟩, []⟩,
    ⟨8, ⟨(some 64), .op (.bin .sub (.tmp 63) (.const (Value.int .i64 1))), none⟩, []⟩,
    ⟨9, ⟨(some 65), .call (.func i_spec_l00In) [(.tmp 59), (.const (Value.int .i64 0)), (.tmp 64)], none⟩, []⟩,
    ⟨10, ⟨(some 66), .op (.un .not (.tmp 65)), none⟩, []⟩,
    ⟨11, ⟨(some 67), .op (.mv (.tmp 66)), none⟩, []⟩,
    ⟨12, ⟨(some 68), .op (.mv (.tmp 7)), some (67, false)⟩, []⟩,
    ⟨13, ⟨(some 69), .op (.nilc (.tmp 68)), some (67, false)⟩, []⟩,
    ⟨14, ⟨(some 70), .op (.faddr (.tmp 69) 1), some (67, false)⟩, []⟩,
    ⟨15, ⟨(some 71), .op (.load 1 false (.tmp 70)), some (67, false)⟩, []⟩,
    ⟨16, ⟨(some 72), .op (.mv (.tmp 5)), some (67, false)⟩, []⟩,
    ⟨17, ⟨(some 73), .op (.nilc (.tmp 72)), some (67, false)⟩, []⟩,
    ⟨18, ⟨(some 74), .op (.faddr (.tmp 73) 0), some (67, false)⟩, []⟩,
    ⟨19, ⟨(some 75), .op (.load 1 false (.tmp 74)), some (67, false)⟩, []⟩,
    ⟨20, ⟨(some 76), .op (.bin .sub (.tmp 75) (.const (Value.int .i64 1))), some (67, false)⟩, []⟩,
    ⟨21, ⟨(some 77), .call (.func i_spec_l00In) [(.tmp 71), (.const (Value.int .i64 0)), (.tmp 76)], some (67, false)⟩, []⟩,
    ⟨22, ⟨(some 78), .op (.un .not (.tmp 77)), some (67, false)⟩, []⟩,
    ⟨23, ⟨(some 79), .op (.pick (.tmp 67) (.const (Value.bool true)) (.tmp 78)), none⟩, []⟩]
    [0, 1, 3, 7, 0, 16, 48, 112, 240, 511, 1023, 2047, 4095, 8191, 16383, 32767, 4095, 69631, 200703, 462847, 987135, 2097151, 4194303, 8388607]) (.kill [56, 57, 58, 59, 60, 61, 62, 63, 64, 65, 66, 67, 68, 69, 70, 71, 72, 73, 74, 75, 76, 77, 78]))
  (.cond (.tmp 79) (.ghost (.kill [0, 3, 4, 5, 6, 7, 79]) (.seq (.reg [⟨(some 2), .op (.mv (.const (Value.bool false))), none⟩])
  .ret))
  (.ghost (.kill [79]) .skip)))
  (.seq (.post (.reg [⟨(some 80), .op (.mv (.tmp 7)), none⟩,
    ⟨(some 81), .op (.nilc (.tmp 80)), none⟩,
    ⟨(some 82), .op (.faddr (.tmp 81) 2), none⟩,
    ⟨(some 83), .op (.load 1 false (.tmp 82)), none⟩,
    ⟨(some 84), .op (.bin .neq (.tmp 83) (.const (Value.string ⟨#[97]⟩))), none⟩,
    ⟨(some 85), .op (.mv (.tmp 84)), none⟩,
    ⟨(some 86), .op (.mv (.tmp 7)), some (85, true)⟩,
    ⟨(some 87), .op (.nilc (.tmp 86)), some (85, true)⟩,
    ⟨(some 88), .op (.faddr (.tmp 87) 2), some (85, true)⟩,
    ⟨(some 89), .op (.load 1 false (.tmp 88)), some (85, true)⟩,
    ⟨(some 90), .op (.bin .neq (.tmp 89) (.const (Value.string ⟨#[98]⟩))), some (85, true)⟩,
    ⟨(some 91), .op (.pick (.tmp 85) (.tmp 90) (.const (Value.bool false))), none⟩,
    ⟨(some 92), .op (.mv (.tmp 91)), none⟩,
    ⟨(some 93), .op (.mv (.tmp 7)), some (92, true)⟩,
    ⟨(some 94), .op (.nilc (.tmp 93)), some (92, true)⟩,
    ⟨(some 95), .op (.faddr (.tmp 94) 2), some (92, true)⟩,
    ⟨(some 96), .op (.load 1 false (.tmp 95)), some (92, true)⟩,
    ⟨(some 97), .call (.func i_spec_l06Brackets) [(.tmp 96)], some (92, true)⟩,
    ⟨(some 98), .op (.un .not (.tmp 97)), some (92, true)⟩,
    ⟨(some 99), .op (.pick (.tmp 92) (.tmp 98) (.const (Value.bool false))), none⟩,
    ⟨(some 100), .op (.mv (.tmp 99)), none⟩,
    ⟨(some 101), .op (.mv (.tmp 7)), some (100, false)⟩,
    ⟨(some 102), .op (.nilc (.tmp 101)), some (100, false)⟩,
    ⟨(some 103), .op (.faddr (.tmp 102) 3), some (100, false)⟩,
    ⟨(some 104), .op (.load 1 false (.tmp 103)), some (100, false)⟩,
    ⟨(some 105), .op (.mv (.tmp 3)), some (100, false)⟩,
    ⟨(some 106), .op (.bin .sub (.tmp 105) (.const (Value.int .i64 1))), some (100, false)⟩,
    ⟨(some 107), .call (.func i_spec_l00In) [(.tmp 104), (.const (Value.int .i64 0)), (.tmp 106)], some (100, false)⟩,
    ⟨(some 108), .op (.un .not (.tmp 107)), some (100, false)⟩,
    ⟨(some 109), .op (.pick (.tmp 100) (.const (Value.bool true)) (.tmp 108)), none⟩,
    ⟨(some 110), .op (.mv (.tmp 109)), none⟩,
    ⟨(some 111), .op (.mv (.tmp 7)), some (110, false)⟩,
    ⟨(some 112), .call (.func i_spec_l07Inner) [(.tmp 111)], some (110, false)⟩,
    ⟨(some 113), .op (.mv (.tmp 112)), some (110, false)⟩,
    ⟨(some 114), .op (.mv (.tmp 7)), some (113, true)⟩,
    ⟨(some 115), .op (.nilc (.tmp 114)), some (113, true)⟩,
    ⟨(some 116), .op (.faddr (.tmp 115) 3), some (113, true)⟩,
    ⟨(some 117), .op (.load 1 false (.tmp 116)), some (113, true)⟩,
    ⟨(some 118), .op (.bin .neq (.tmp 117) (.const (Value.int .i64 0))), some (113, true)⟩,
    ⟨(some 119), .op (.pick (.tmp 113) (.tmp 118) (.const (Value.bool false))), some (110, false)⟩,
    ⟨(some 120), .op (.pick (.tmp 110) (.const (Value.bool true)) (.tmp 119)), none⟩]) (.kill [7, 80, 81, 82, 83, 84, 85, 86, 87, 88, 89, 90, 91, 92, 93, 94, 95, 96, 97, 98, 99, 100, 101, 102, 103, 104, 105, 106, 107, 108, 109, 110, 111, 112, 113, 114, 115, 116, 117, 118, 119]))
  (.cond (.tmp 120) (.ghost (.kill [0, 3, 4, 5, 6, 120]) (.seq (.reg [⟨(some 2), .op (.mv (.const (Value.bool false))), none⟩])
  .ret))
  (.ghost (.kill [120]) .skip))))))
  (.post (.reg [⟨(some 48), .op (.mv (.tmp 6)), none⟩,
    ⟨(some 49), .op (.bin .add (.tmp 48) (.const (Value.int .i64 1))), none⟩,
    ⟨(some 6), .op (.mv (.tmp 49)), none⟩]) (.kill [48, 49]))))
def lo_spec_l07Ok_0 : AC := (.loop lb_spec_l07Ok_0)
def lb_spec_l07Ok_1 : AC := (.seq (.seq (.post (.reg [⟨(some 16), .op (.mv (.tmp 4)), none⟩,
    ⟨(some 17), .op (.mv (.tmp 3)), none⟩,
    ⟨(some 18), .op (.bin .lss (.tmp 16) (.tmp 17)), none⟩]) (.kill [16, 17]))
  (.cond (.tmp 18) (.ghost (.kill [18]) .skip)
  (.ghost (.kill [0, 3, 4, 18]) (.exit 0))))
  (.seq (.block 1 (.seq (.post (.reg [⟨(some 21), .op (.mv (.tmp 0)), none⟩,
    ⟨(some 22), .op (.nilc (.tmp 21)), none⟩,
    ⟨(some 23), .op (.faddr (.tmp 22) 0), none⟩,
    ⟨(some 24), .op (.load 1 false (.tmp 23)), none⟩,
    ⟨(some 25), .op (.mv (.tmp 4)), none⟩,
    ⟨(some 26), .op (.iaddrS (.tmp 24) (.tmp 25) 2), none⟩,
    ⟨(some 5), .op (.mv (.tmp 26)), none⟩]) (.kill [21, 22, 23, 24, 25, 26]))
  (.seq (.seq (.post (.reg [⟨(some 27), .op (.mv (.tmp 5)), none⟩,
    ⟨(some 28), .op (.nilc (.tmp 27)), none⟩,
    ⟨(some 29), .op (.faddr (.tmp 28) 0), none⟩,
    ⟨(some 30), .op (.load 1 false (.tmp 29)), none⟩,
    ⟨(some 31), .call (.func i_spec_l00In) [(.tmp 30), (.const (Value.int .i64 1)), (.const (Value.int .i64 8))], none⟩,
    ⟨(some 32), .op (.un .not (.tmp 31)), none⟩,
    ⟨(some 33), .op (.mv (.tmp 32)), none⟩,
    ⟨(some 34), .op (.mv (.tmp 5)), some (33, false)⟩,
    ⟨(some 35), .op (.nilc (.tmp 34)), some (33, false)⟩,
    ⟨(some 36), .op (.faddr (.tmp 35) 1), some (33, false)⟩,
    ⟨(some 37), .op (.load 1 false (.tmp 36)), some (33, false)⟩,
    ⟨(some 38), .op (.len false (.tmp 37)), some (33, false)⟩,
    ⟨(some 39), .op (.bin .gtr (.tmp 38) (.const (Value.int .i64 12))), some (33, false)⟩,
    ⟨(some 40), .op (.pick (.tmp 33) (.const (Value.bool true)) (.tmp 39)), none⟩]) (.kill [27, 28, 29, 30, 31, 32, 33, 34, 35, 36, 37, 38, 39]))
  (.cond (.tmp 40) (.ghost (.kill [0, 3, 4, 5, 40]) (.seq (.reg [⟨(some 2), .op (.mv (.const (Value.bool false))), none⟩])
  .ret))
  (.ghost (.kill [40]) .skip)))
  (.seq (.reg [⟨(some 6), .op (.mv (.const (Value.int .i64 0))), none⟩])
  (.block 2 lo_spec_l07Ok_0)))))
  (.ghost (.kill [5, 6]) (.post (.reg [⟨(some 19), .op (.mv (.tmp 4)), none⟩,
    ⟨(some 20), .op (.bin .add (.tmp 19) (.const (Value.int .i64 1))), none⟩,
    ⟨(some 4), .op (.mv (.tmp 20)), none⟩]) (.kill [19, 20])))))
def lo_spec_l07Ok_1 : AC := (.loop lb_spec_l07Ok_1)
def ac_spec_l07Ok : AC := (.seq (.post (.reg [⟨(some 2), .op (.mv (.const (Value.bool false))), none⟩]) (.kill [2]))
  (.seq (.post (.reg [⟨(some 8), .op (.mv (.tmp 0)), none⟩,
    ⟨(some 9), .op (.nilc (.tmp 8)), none⟩,
    ⟨(some 10), .op (.faddr (.tmp 9) 0), none⟩,
    ⟨(some 11), .op (.load 1 false (.tmp 10)), none⟩,
    ⟨(some 12), .op (.len false (.tmp 11)), none⟩,
    ⟨(some 3), .op (.mv (.tmp 12)), none⟩]) (.kill [8, 9, 10, 11, 12]))
  (.seq (.seq (.post (.reg [⟨(some 13), .op (.mv (.tmp 3)), none⟩,
    ⟨(some 14), .call (.func i_spec_l00In) [(.tmp 13), (.const (Value.int .i64 1)), (.const (Value.int .i64 4))], none⟩,
    ⟨(some 15), .op (.un .not (.tmp 14)), none⟩]) (.kill [13, 14]))
  (.cond (.tmp 15) (.ghost (.kill [0, 3, 15]) (.seq (.reg [⟨(some 2), .op (.mv (.const (Value.bool false))), none⟩])
  .ret))
  (.ghost (.kill [15]) .skip)))
  (.seq (.seq (.reg [⟨(some 4), .op (.mv (.const (Value.int .i64 0))), none⟩])
  (.block 0 lo_spec_l07Ok_1))
  (.ghost (.kill [0, 3, 4]) (.seq (.reg [⟨(some 2), .op (.mv (.const (Value.bool true))), none⟩])
  .ret))))))
theorem cf_spec_l07Ok : chkFn Try.prog i_spec_l07Ok ac_spec_l07Ok [.tmp 2] 121 = true := by decide +kernel
def fa_spec_l07Ok : FnA := ⟨ac_spec_l07Ok, [.tmp 2], 121, false, true, [], .any, none⟩

/-- The checked code of spec l07Make. -/
def ac_spec_l07Make : AC := (.seq (.post (.reg [⟨(some 6), .op (.mv (.const (Value.string ⟨#[]⟩))), none⟩]) (.kill [6]))
  (.seq (.seq (.post (.reg [⟨(some 10), .op (.mv (.tmp 2)), none⟩,
    ⟨(some 11), .op (.bin .eql (.tmp 10) (.const (Value.int .i64 (-1)))), none⟩]) (.kill [10]))
  (.cond (.tmp 11) (.ghost (.kill [2, 11]) (.seq (.post (.draw [⟨0, ⟨(some 12), .op (.mv (.tmp 1)), none⟩, []⟩,
    ⟨1, ⟨(some 13), .op (.nilc (.tmp 12)), none⟩, []⟩,
    ⟨2, ⟨(some 14), .op (.faddr (.tmp 13) 2), none⟩, []⟩,
    ⟨3, ⟨(some 15), .op (.load 1 false (.tmp 14)), none⟩, []⟩,
    ⟨4, ⟨(some 16), .op (.mv (.tmp 1)), none⟩, []⟩,
    ⟨5, ⟨(some 17), .op (.nilc (.tmp 16)), none⟩, []⟩,
    ⟨6, ⟨(some 18), .op (.faddr (.tmp 17) 2), none⟩, []⟩,
    ⟨7, ⟨(some 19), .op (.load 1 false (.tmp 18)), none⟩, []⟩,
    ⟨8, ⟨(some 20), .op (.len false (.tmp 19)), none⟩, []⟩,
    ⟨9, ⟨(some 21), .op (.bin .sub (.tmp 20) (.const (Value.int .i64 1))), none⟩, []⟩,
    ⟨10, ⟨(some 22), .op (.iaddrS (.tmp 15) (.tmp 21) 1), none⟩, []⟩,
    ⟨11, ⟨(some 23), .op (.load 1 false (.tmp 22)), none⟩, []⟩,
    ⟨12, ⟨(some 7), .op (.mv (.tmp 23)), none⟩, []⟩]
    [0, 1, 3, 7, 0, 16, 48, 112, 240, 496, 1023, 2047, 4095]) (.kill [12, 13, 14, 15, 16, 17, 18, 19, 20, 21, 22, 23]))
  (.seq (.post (.post (.draw [⟨0, ⟨(some 24), .op (.mv (.tmp 1)), none⟩, []⟩,
    ⟨1, ⟨(some 25), .op (.mv (.tmp 1)), none⟩, []⟩,
    ⟨2, ⟨(some 26), .op (.nilc (.tmp 25)), none⟩, []⟩,
    ⟨3, ⟨(some 27), .op (.faddr (.tmp 26) 2), none⟩, []⟩,
    ⟨4, ⟨(some 28), .op (.load 1 false (.tmp 27)), none⟩, []⟩,
    ⟨5, ⟨(some 29), .op (.mv (.tmp 1)), none⟩, []⟩,
    ⟨6, ⟨(some 30), .op (.nilc (.tmp 29)), none⟩, []⟩,
    ⟨7, ⟨(some 31), .op (.faddr (.tmp 30) 2), none⟩, []⟩,
    ⟨8, ⟨(some 32), .op (.load 1 false (.tmp 31)), none⟩, []⟩,
    ⟨9, ⟨(some 33), .op (.len false (.tmp 32)), none⟩, []⟩,
    ⟨10, ⟨(some 34), .op (.bin .sub (.tmp 33) (.const (Value.int .i64 1))), none⟩, []⟩,
    ⟨11, ⟨(some 35), .op (.slcS (.tmp 28) none (some (.tmp 34)) none 1), none⟩, []⟩,
    ⟨12, ⟨(some 36), .op (.nilc (.tmp 24)), none⟩, []⟩,
    ⟨13, ⟨(some 37), .op (.faddr (.tmp 36) 2), none⟩, []⟩,
    ⟨14, ⟨none, .op (.store 1 (.tmp 37) (.tmp 35)), none⟩, []⟩]
    [0, 0, 2, 6, 14, 0, 32, 96, 224, 480, 992, 2046, 4095, 8191, 16383]) (.kill [24, 25, 26, 27, 28, 29, 30, 31, 32, 33, 34, 35, 36, 37])) .nv)
  (.seq (.post (.draw [⟨0, ⟨(some 38), .op (.mv (.tmp 0)), none⟩, []⟩,
    ⟨1, ⟨(some 39), .op (.nilc (.tmp 38)), none⟩, []⟩,
    ⟨2, ⟨(some 40), .op (.faddr (.tmp 39) 0), none⟩, []⟩,
    ⟨3, ⟨(some 41), .op (.load 1 false (.tmp 40)), none⟩, []⟩,
    ⟨4, ⟨(some 42), .op (.mv (.tmp 7)), none⟩, []⟩,
    ⟨5, ⟨(some 43), .op (.iaddrS (.tmp 42) (.const (Value.int .i64 0)) 1), none⟩, []⟩,
    ⟨6, ⟨(some 44), .op (.load 1 false (.tmp 43)), none⟩, []⟩,
    ⟨7, ⟨(some 45), .op (.iaddrS (.tmp 41) (.tmp 44) 2), none⟩, []⟩,
    ⟨8, ⟨(some 46), .op (.faddr (.tmp 45) 1), none⟩, []⟩,
    ⟨9, ⟨(some 47), .op (.load 1 false (.tmp 46)), none⟩, []⟩,
    ⟨10, ⟨(some 48), .op (.mv (.tmp 7)), none⟩, []⟩,
    ⟨11, ⟨(some 49), .op (.iaddrS (.tmp 48) (.const (Value.int .i64 1)) 1), none⟩, []⟩,
    ⟨12, ⟨(some 50), .op (.load 1 false (.tmp 49)), none⟩, []⟩,
    ⟨13, ⟨(some 51), .op (.iaddrS (.tmp 47) (.tmp 50) 4), none⟩, []⟩,
    ⟨14, ⟨(some 52), .op (.load 4 true (.tmp 51)), none⟩, []⟩,
    ⟨15, ⟨(some 8), .op (.alloc (Value.agg #[Value.int .i64 0, Value.int .i64 0, Value.string ⟨#[]⟩, Value.int .i64 0])), none⟩, [3, 5, 6, 7, 9, 11, 12, 13, 14]⟩,
    ⟨16, ⟨none, .op (.store 4 (.tmp 8) (.tmp 52)), none⟩, []⟩]
    [0, 1, 3, 7, 0, 16, 48, 127, 255, 511, 0, 1024, 3072, 8191, 16383, 0, 65535]) (.kill [0, 38, 39, 40, 41, 42, 43, 44, 45, 46, 47, 48, 49, 50, 51, 52]))
  (.seq (.post (.reg [⟨(some 53), .op (.mv (.tmp 1)), none⟩,
    ⟨(some 54), .op (.mv (.tmp 7)), none⟩,
    ⟨(some 55), .op (.iaddrS (.tmp 54) (.const (Value.int .i64 0)) 1), none⟩,
    ⟨(some 56), .op (.load 1 false (.tmp 55)), none⟩,
    ⟨(some 57), .op (.nilc (.tmp 53)), none⟩,
    ⟨(some 58), .op (.faddr (.tmp 57) 0), none⟩,
    ⟨none, .op (.store 1 (.tmp 58) (.tmp 56)), none⟩]) (.kill [7, 53, 54, 55, 56, 57, 58]))
  (.seq (.post (.reg [⟨(some 59), .op (.mv (.tmp 1)), none⟩,
    ⟨(some 60), .op (.faddr (.tmp 8) 1), none⟩,
    ⟨(some 61), .op (.load 1 false (.tmp 60)), none⟩,
    ⟨(some 62), .op (.nilc (.tmp 59)), none⟩,
    ⟨(some 63), .op (.faddr (.tmp 62) 1), none⟩,
    ⟨none, .op (.store 1 (.tmp 63) (.tmp 61)), none⟩]) (.kill [1, 59, 60, 61, 62, 63]))
  (.seq (.post (.reg [⟨(some 64), .op (.faddr (.tmp 8) 2), none⟩,
    ⟨(some 65), .op (.load 1 false (.tmp 64)), none⟩,
    ⟨(some 66), .op (.slcStr (.tmp 65) (some (.const (Value.int .i64 1))) none), none⟩,
    ⟨(some 6), .op (.mv (.tmp 66)), none⟩]) (.kill [8, 64, 65, 66]))
  .ret)))))))
  (.ghost (.kill [11]) .skip)))
  (.seq (.post (.draw [⟨0, ⟨(some 67), .op (.mv (.tmp 0)), none⟩, []⟩,
    ⟨1, ⟨(some 68), .op (.nilc (.tmp 67)), none⟩, []⟩,
    ⟨2, ⟨(some 69), .op (.faddr (.tmp 68) 0), none⟩, []⟩,
    ⟨3, ⟨(some 70), .op (.load 1 false (.tmp 69)), none⟩, []⟩,
    ⟨4, ⟨(some 71), .op (.mv (.tmp 1)), none⟩, []⟩,
    ⟨5, ⟨(some 72), .op (.nilc (.tmp 71)), none⟩, []⟩,
    ⟨6, ⟨(some 73), .op (.faddr (.tmp 72) 0), none⟩, []⟩,
    ⟨7, ⟨(some 74), .op (.load 1 false (.tmp 73)), none⟩, []⟩,
    ⟨8, ⟨(some 75), .op (.iaddrS (.tmp 70) (.tmp 74) 2), none⟩, []⟩,
    ⟨9, ⟨(some 76), .op (.faddr (.tmp 75) 1), none⟩, []⟩,
    ⟨10, ⟨(some 77), .op (.load 1 false (.tmp 76)), none⟩, []⟩,
    ⟨11, ⟨(some 78), .op (.mv (.tmp 2)), none⟩, []⟩,
    ⟨12, ⟨(some 79), .op (.iaddrS (.tmp 77) (.tmp 78) 4), none⟩, []⟩,
    ⟨13, ⟨(some 80), .op (.load 4 true (.tmp 79)), none⟩, []⟩,
    ⟨14, ⟨(some 9), .op (.alloc (Value.agg #[Value.int .i64 0, Value.int .i64 0, Value.string ⟨#[]⟩, Value.int .i64 0])), none⟩, [3, 7, 8, 10, 12, 13]⟩,
    ⟨15, ⟨none, .op (.store 4 (.tmp 9) (.tmp 80)), none⟩, []⟩]
    [0, 1, 3, 7, 0, 16, 48, 112, 255, 511, 1023, 0, 4095, 8191, 0, 32767]) (.kill [0, 67, 68, 69, 70, 71, 72, 73, 74, 75, 76, 77, 78, 79, 80]))
  (.seq (.seq (.reg [⟨(some 81), .call (.func i_spec_l07Inner) [(.tmp 9)], none⟩])
  (.cond (.tmp 81) (.ghost (.kill [2, 81]) (.seq (.post (.reg [⟨(some 82), .op (.mv (.tmp 1)), none⟩,
    ⟨(some 83), .op (.faddr (.tmp 9) 1), none⟩,
    ⟨(some 84), .op (.load 1 false (.tmp 83)), none⟩,
    ⟨(some 85), .op (.nilc (.tmp 82)), none⟩,
    ⟨(some 86), .op (.faddr (.tmp 85) 1), none⟩,
    ⟨none, .op (.store 1 (.tmp 86) (.tmp 84)), none⟩]) (.kill [1, 82, 83, 84, 85, 86]))
  (.seq (.post (.reg [⟨(some 87), .op (.faddr (.tmp 9) 2), none⟩,
    ⟨(some 88), .op (.load 1 false (.tmp 87)), none⟩,
    ⟨(some 6), .op (.mv (.tmp 88)), none⟩]) (.kill [9, 87, 88]))
  .ret)))
  (.ghost (.kill [81]) .skip)))
  (.seq (.post (.post (.draw [⟨0, ⟨(some 89), .op (.mv (.tmp 1)), none⟩, []⟩,
    ⟨1, ⟨(some 90), .op (.mv (.tmp 1)), none⟩, []⟩,
    ⟨2, ⟨(some 91), .op (.nilc (.tmp 90)), none⟩, []⟩,
    ⟨3, ⟨(some 92), .op (.faddr (.tmp 91) 2), none⟩, []⟩,
    ⟨4, ⟨(some 93), .op (.load 1 false (.tmp 92)), none⟩, []⟩,
    ⟨5, ⟨(some 94), .op (.mv (.tmp 1)), none⟩, []⟩,
    ⟨6, ⟨(some 95), .op (.nilc (.tmp 94)), none⟩, []⟩,
    ⟨7, ⟨(some 96), .op (.faddr (.tmp 95) 0), none⟩, []⟩,
    ⟨8, ⟨(some 97), .op (.load 1 false (.tmp 96)), none⟩, []⟩,
    ⟨9, ⟨(some 98), .op (.mv (.tmp 2)), none⟩, []⟩,
    ⟨10, ⟨(some 99), .op (.lits true 1 2 (Value.int .i64 0) [(0, (.tmp 97)), (1, (.tmp 98))]), none⟩, []⟩,
    ⟨11, ⟨(some 100), .op (.lits true 1 1 (Value.slice none 0 0) [(0, (.tmp 99))]), none⟩, []⟩,
    ⟨12, ⟨(some 101), .op (.append (.tmp 93) (.tmp 100) 1 24), none⟩, []⟩,
    ⟨13, ⟨(some 102), .op (.nilc (.tmp 89)), none⟩, []⟩,
    ⟨14, ⟨(some 103), .op (.faddr (.tmp 102) 2), none⟩, []⟩,
    ⟨15, ⟨none, .op (.store 1 (.tmp 103) (.tmp 101)), none⟩, []⟩]
    [0, 0, 2, 6, 14, 0, 32, 96, 224, 0, 992, 2016, 4094, 8191, 16383, 32767]) (.kill [2, 89, 90, 91, 92, 93, 94, 95, 96, 97, 98, 99, 100, 101, 102, 103])) .nv)
  (.seq (.post (.reg [⟨(some 104), .op (.mv (.tmp 1)), none⟩,
    ⟨(some 105), .op (.faddr (.tmp 9) 3), none⟩,
    ⟨(some 106), .op (.load 1 false (.tmp 105)), none⟩,
    ⟨(some 107), .op (.nilc (.tmp 104)), none⟩,
    ⟨(some 108), .op (.faddr (.tmp 107) 0), none⟩,
    ⟨none, .op (.store 1 (.tmp 108) (.tmp 106)), none⟩]) (.kill [104, 105, 106, 107, 108]))
  (.seq (.post (.reg [⟨(some 109), .op (.mv (.tmp 1)), none⟩,
    ⟨(some 110), .op (.nilc (.tmp 109)), none⟩,
    ⟨(some 111), .op (.faddr (.tmp 110) 1), none⟩,
    ⟨none, .op (.store 1 (.tmp 111) (.const (Value.int .i64 0))), none⟩]) (.kill [1, 109, 110, 111]))
  (.seq (.post (.reg [⟨(some 112), .op (.faddr (.tmp 9) 2), none⟩,
    ⟨(some 113), .op (.load 1 false (.tmp 112)), none⟩,
    ⟨(some 114), .op (.slcStr (.tmp 113) none (some (.const (Value.int .i64 1)))), none⟩,
    ⟨(some 6), .op (.mv (.tmp 114)), none⟩]) (.kill [9, 112, 113, 114]))
  .ret))))))))
theorem cf_spec_l07Make : chkFn Try.prog i_spec_l07Make ac_spec_l07Make [.tmp 6] 115 = true := by decide +kernel
def fa_spec_l07Make : FnA := ⟨ac_spec_l07Make, [.tmp 6], 115, true, false, [], .any, none⟩

/-- The checked code of spec l07Run. -/
def lb_spec_l07Run_0 : AC := (.post (.seq (.seq (.post (.reg [⟨(some 20), .op (.mv (.tmp 9)), none⟩,
    ⟨(some 21), .op (.mv (.tmp 1)), none⟩,
    ⟨(some 22), .op (.len false (.tmp 21)), none⟩,
    ⟨(some 23), .op (.bin .lss (.tmp 20) (.tmp 22)), none⟩]) (.kill [20, 21, 22]))
  (.cond (.tmp 23) (.ghost (.kill [23]) .skip)
  (.ghost (.kill [0, 1, 9, 23]) (.exit 0))))
  (.seq (.block 1 (.seq (.seq (.post (.reg [⟨(some 26), .op (.mv (.tmp 0)), none⟩,
    ⟨(some 27), .op (.mv (.tmp 7)), none⟩,
    ⟨(some 28), .op (.mv (.tmp 1)), none⟩,
    ⟨(some 29), .op (.mv (.tmp 9)), none⟩,
    ⟨(some 30), .op (.iaddrS (.tmp 28) (.tmp 29) 1), none⟩,
    ⟨(some 31), .op (.load 1 false (.tmp 30)), none⟩,
    ⟨(some 32), .call (.func i_spec_l07Can) [(.tmp 26), (.tmp 27), (.tmp 31)], none⟩,
    ⟨(some 33), .op (.un .not (.tmp 32)), none⟩]) (.kill [26, 27, 28, 29, 30, 31, 32]))
  (.cond (.tmp 33) (.ghost (.kill [0, 1, 8, 9, 33]) (.seq (.post (.reg [⟨(some 34), .op (.mv (.tmp 7)), none⟩,
    ⟨(some 4), .op (.mv (.const (Value.string ⟨#[]⟩))), none⟩,
    ⟨(some 5), .op (.mv (.tmp 34)), none⟩,
    ⟨(some 6), .op (.mv (.const (Value.int .i64 4))), none⟩]) (.kill [7, 34]))
  .ret))
  (.ghost (.kill [33]) .skip)))
  (.post (.reg [⟨(some 35), .op (.mv (.tmp 8)), none⟩,
    ⟨(some 36), .op (.mv (.tmp 0)), none⟩,
    ⟨(some 37), .op (.mv (.tmp 7)), none⟩,
    ⟨(some 38), .op (.mv (.tmp 1)), none⟩,
    ⟨(some 39), .op (.mv (.tmp 9)), none⟩,
    ⟨(some 40), .op (.iaddrS (.tmp 38) (.tmp 39) 1), none⟩,
    ⟨(some 41), .op (.load 1 false (.tmp 40)), none⟩,
    ⟨(some 42), .call (.func i_spec_l07Make) [(.tmp 36), (.tmp 37), (.tmp 41)], none⟩,
    ⟨(some 43), .op (.bin .add (.tmp 35) (.tmp 42)), none⟩,
    ⟨(some 8), .op (.mv (.tmp 43)), none⟩]) (.kill [35, 36, 37, 38, 39, 40, 41, 42, 43]))))
  (.post (.reg [⟨(some 24), .op (.mv (.tmp 9)), none⟩,
    ⟨(some 25), .op (.bin .add (.tmp 24) (.const (Value.int .i64 1))), none⟩,
    ⟨(some 9), .op (.mv (.tmp 25)), none⟩]) (.kill [24, 25])))) .nv)
def lo_spec_l07Run_0 : AC := (.loop lb_spec_l07Run_0)
def ac_spec_l07Run : AC := (.seq (.post (.reg [⟨(some 4), .op (.mv (.const (Value.string ⟨#[]⟩))), none⟩,
    ⟨(some 5), .op (.mv (.const (Value.pointer none))), none⟩,
    ⟨(some 6), .op (.mv (.const (Value.int .i64 0))), none⟩]) (.kill [4, 5, 6]))
  (.seq (.post (.reg [⟨(some 10), .op (.build [Value.int .i64 0, Value.int .i64 0, Value.slice none 0 0] []), none⟩,
    ⟨(some 11), .op (.box false (.tmp 10)), none⟩,
    ⟨(some 7), .op (.mv (.tmp 11)), none⟩]) (.kill [10, 11]))
  (.seq (.seq (.post (.reg [⟨(some 12), .op (.mv (.tmp 0)), none⟩,
    ⟨(some 13), .call (.func i_spec_l07Ok) [(.tmp 12)], none⟩,
    ⟨(some 14), .op (.un .not (.tmp 13)), none⟩]) (.kill [12, 13]))
  (.cond (.tmp 14) (.ghost (.kill [0, 1, 14]) (.seq (.post (.reg [⟨(some 15), .op (.mv (.tmp 7)), none⟩,
    ⟨(some 4), .op (.mv (.const (Value.string ⟨#[]⟩))), none⟩,
    ⟨(some 5), .op (.mv (.tmp 15)), none⟩,
    ⟨(some 6), .op (.mv (.const (Value.int .i64 1))), none⟩]) (.kill [7, 15]))
  .ret))
  (.ghost (.kill [14]) .skip)))
  (.seq (.seq (.post (.reg [⟨(some 16), .op (.mv (.tmp 1)), none⟩,
    ⟨(some 17), .op (.len false (.tmp 16)), none⟩,
    ⟨(some 18), .op (.bin .gtr (.tmp 17) (.const (Value.int .i64 200))), none⟩]) (.kill [16, 17]))
  (.cond (.tmp 18) (.ghost (.kill [0, 1, 18]) (.seq (.post (.reg [⟨(some 19), .op (.mv (.tmp 7)), none⟩,
    ⟨(some 4), .op (.mv (.const (Value.string ⟨#[]⟩))), none⟩,
    ⟨(some 5), .op (.mv (.tmp 19)), none⟩,
    ⟨(some 6), .op (.mv (.const (Value.int .i64 2))), none⟩]) (.kill [7, 19]))
  .ret))
  (.ghost (.kill [18]) .skip)))
  (.seq (.reg [⟨(some 8), .op (.mv (.const (Value.string ⟨#[]⟩))), none⟩])
  (.seq (.seq (.reg [⟨(some 9), .op (.mv (.const (Value.int .i64 0))), none⟩])
  (.post (.block 0 (.ghost (.ow 7 (some 2) 1) (.ghost .nv lo_spec_l07Run_0))) .nv))
  (.ghost (.kill [0, 1, 9]) (.seq (.post (.reg [⟨(some 44), .op (.mv (.tmp 8)), none⟩,
    ⟨(some 45), .op (.mv (.tmp 7)), none⟩,
    ⟨(some 4), .op (.mv (.tmp 44)), none⟩,
    ⟨(some 5), .op (.mv (.tmp 45)), none⟩,
    ⟨(some 6), .op (.mv (.const (Value.int .i64 0))), none⟩]) (.kill [7, 8, 44, 45]))
  .ret))))))))
theorem cf_spec_l07Run : chkFn Try.prog i_spec_l07Run ac_spec_l07Run [.tmp 4, .tmp 5, .tmp 6] 46 = true := by decide +kernel
def fa_spec_l07Run : FnA := ⟨ac_spec_l07Run, [.tmp 4, .tmp 5, .tmp 6], 46, false, true, [], .any, none⟩

/-- The checked code of spec ChoicesAt. -/
def lb_spec_ChoicesAt_0 : AC := (.post (.seq (.seq (.post (.reg [⟨(some 22), .op (.mv (.tmp 10)), none⟩,
    ⟨(some 23), .op (.bin .lss (.tmp 22) (.const (Value.int .i64 12))), none⟩]) (.kill [22]))
  (.cond (.tmp 23) (.ghost (.kill [23]) .skip)
  (.ghost (.kill [2, 7, 10, 23]) (.exit 0))))
  (.seq (.block 1 (.seq (.post (.reg [⟨(some 26), .op (.mv (.tmp 7)), none⟩,
    ⟨(some 27), .op (.mv (.tmp 10)), none⟩,
    ⟨(some 28), .call (.func i_spec_l07Can) [(.tmp 2), (.tmp 26), (.tmp 27)], none⟩]) (.kill [26, 27]))
  (.cond (.tmp 28) (.ghost (.kill [28]) (.post (.post (.reg [⟨(some 29), .op (.mv (.tmp 9)), none⟩,
    ⟨(some 30), .op (.mv (.tmp 10)), none⟩,
    ⟨(some 31), .op (.lits true 1 1 (Value.int .i64 0) [(0, (.tmp 30))]), none⟩,
    ⟨(some 32), .op (.append (.tmp 29) (.tmp 31) 1 8), none⟩,
    ⟨(some 9), .op (.mv (.tmp 32)), none⟩]) (.kill [29, 30, 31, 32])) .nv))
  (.ghost (.kill [28]) .skip))))
  (.post (.reg [⟨(some 24), .op (.mv (.tmp 10)), none⟩,
    ⟨(some 25), .op (.bin .add (.tmp 24) (.const (Value.int .i64 1))), none⟩,
    ⟨(some 10), .op (.mv (.tmp 25)), none⟩]) (.kill [24, 25])))) .nv)
def lo_spec_ChoicesAt_0 : AC := (.loop lb_spec_ChoicesAt_0)
def ac_spec_ChoicesAt : AC := (.seq (.post (.reg [⟨(some 2), .op (.box true (.tmp 0)), none⟩,
    ⟨(some 4), .op (.mv (.const (Value.slice none 0 0))), none⟩,
    ⟨(some 5), .op (.mv (.const (Value.int .i64 0))), none⟩]) (.kill [0, 4, 5]))
  (.seq (.post (.reg [⟨(some 12), .op (.mv (.tmp 1)), none⟩,
    ⟨(some 13), .call (.func i_spec_l07Run) [(.tmp 2), (.tmp 12)], none⟩,
    ⟨(some 11), .op (.mv (.tmp 13)), none⟩,
    ⟨(some 14), .op (.ext (.tmp 11) 0), none⟩,
    ⟨(some 15), .op (.ext (.tmp 11) 1), none⟩,
    ⟨(some 16), .op (.ext (.tmp 11) 2), none⟩,
    ⟨(some 6), .op (.mv (.tmp 14)), none⟩,
    ⟨(some 7), .op (.mv (.tmp 15)), none⟩,
    ⟨(some 8), .op (.mv (.tmp 16)), none⟩]) (.kill [1, 6, 11, 12, 13, 14, 15, 16]))
  (.seq (.seq (.post (.reg [⟨(some 17), .op (.mv (.tmp 8)), none⟩,
    ⟨(some 18), .op (.bin .neq (.tmp 17) (.const (Value.int .i64 0))), none⟩]) (.kill [17]))
  (.cond (.tmp 18) (.ghost (.kill [2, 7, 18]) (.seq (.post (.reg [⟨(some 19), .op (.lits true 1 0 (Value.int .i64 0) []), none⟩,
    ⟨(some 20), .op (.mv (.tmp 8)), none⟩,
    ⟨(some 4), .op (.mv (.tmp 19)), none⟩,
    ⟨(some 5), .op (.mv (.tmp 20)), none⟩]) (.kill [8, 19, 20]))
  .ret))
  (.ghost (.kill [8, 18]) .skip)))
  (.seq (.post (.reg [⟨(some 21), .op (.lits true 1 0 (Value.int .i64 0) []), none⟩,
    ⟨(some 9), .op (.mv (.tmp 21)), none⟩]) (.kill [21]))
  (.seq (.seq (.reg [⟨(some 10), .op (.mv (.const (Value.int .i64 (-1)))), none⟩])
  (.post (.block 0 (.ghost (.ow 9 none 1) (.ghost .nv lo_spec_ChoicesAt_0))) .nv))
  (.ghost (.kill [2, 7, 10]) (.seq (.post (.reg [⟨(some 33), .op (.mv (.tmp 9)), none⟩,
    ⟨(some 4), .op (.mv (.tmp 33)), none⟩,
    ⟨(some 5), .op (.mv (.const (Value.int .i64 0))), none⟩]) (.kill [9, 33]))
  .ret)))))))
theorem cf_spec_ChoicesAt : chkFn Try.prog i_spec_ChoicesAt ac_spec_ChoicesAt [.tmp 4, .tmp 5] 34 = true := by decide +kernel
def fa_spec_ChoicesAt : FnA := ⟨ac_spec_ChoicesAt, [.tmp 4, .tmp 5], 34, false, true, [(.agg [(.lst 2 (.agg [.any, (.lst 4 .any)]))]), (.lst 1 .any)], .any, none⟩

/-- The checked code of laws toLink. -/
def ac_laws_toLink : AC := (.seq (.post (.reg [⟨(some 1), .op (.box true (.tmp 0)), none⟩,
    ⟨(some 2), .op (.alloc (Value.agg #[Value.int .i64 0, Value.int .i64 0, Value.string ⟨#[]⟩, Value.int .i64 0])), none⟩]) (.kill [0]))
  (.seq (.reg [⟨(some 3), .op (.alloc (Value.agg #[Value.int .i64 0, Value.int .i64 0, Value.string ⟨#[]⟩, Value.int .i64 0])), none⟩])
  (.seq (.post (.reg [⟨(some 4), .op (.faddr (.tmp 1) 0), none⟩,
    ⟨(some 5), .op (.load 1 false (.tmp 4)), none⟩,
    ⟨(some 6), .op (.faddr (.tmp 3) 0), none⟩,
    ⟨none, .op (.store 1 (.tmp 6) (.tmp 5)), none⟩]) (.kill [4, 5, 6]))
  (.seq (.post (.reg [⟨(some 7), .op (.faddr (.tmp 1) 1), none⟩,
    ⟨(some 8), .op (.load 1 false (.tmp 7)), none⟩,
    ⟨(some 9), .op (.faddr (.tmp 3) 1), none⟩,
    ⟨none, .op (.store 1 (.tmp 9) (.tmp 8)), none⟩]) (.kill [7, 8, 9]))
  (.seq (.post (.reg [⟨(some 10), .op (.faddr (.tmp 1) 2), none⟩,
    ⟨(some 11), .op (.load 1 false (.tmp 10)), none⟩,
    ⟨(some 12), .op (.faddr (.tmp 3) 2), none⟩,
    ⟨none, .op (.store 1 (.tmp 12) (.tmp 11)), none⟩]) (.kill [10, 11, 12]))
  (.seq (.post (.reg [⟨(some 13), .op (.faddr (.tmp 1) 3), none⟩,
    ⟨(some 14), .op (.load 1 false (.tmp 13)), none⟩,
    ⟨(some 15), .op (.faddr (.tmp 3) 3), none⟩,
    ⟨none, .op (.store 1 (.tmp 15) (.tmp 14)), none⟩]) (.kill [1, 13, 14, 15]))
  (.seq (.post (.reg [⟨(some 16), .op (.load 4 true (.tmp 3)), none⟩,
    ⟨none, .op (.store 4 (.tmp 2) (.tmp 16)), none⟩]) (.kill [3, 16]))
  .ret)))))))
theorem cf_laws_toLink : chkFn Try.prog i_laws_toLink ac_laws_toLink [.cell 2 4 true] 17 = true := by decide +kernel
def fa_laws_toLink : FnA := ⟨ac_laws_toLink, [.cell 2 4 true], 17, false, false, [], .any, none⟩

/-- The checked code of laws toLinkS. -/
def lb_laws_toLinkS_0 : AC := (.seq (.seq (.post (.reg [⟨(some 8), .op (.mv (.tmp 4)), none⟩,
    ⟨(some 9), .op (.mv (.tmp 0)), none⟩,
    ⟨(some 10), .op (.len false (.tmp 9)), none⟩,
    ⟨(some 11), .op (.bin .lss (.tmp 8) (.tmp 10)), none⟩]) (.kill [8, 9, 10]))
  (.cond (.tmp 11) (.ghost (.kill [11]) .skip)
  (.ghost (.kill [0, 4, 11]) (.exit 0))))
  (.seq (.block 1 (.post (.reg [⟨(some 14), .op (.mv (.tmp 3)), none⟩,
    ⟨(some 15), .op (.mv (.tmp 4)), none⟩,
    ⟨(some 16), .op (.mv (.tmp 0)), none⟩,
    ⟨(some 17), .op (.mv (.tmp 4)), none⟩,
    ⟨(some 18), .op (.iaddrS (.tmp 16) (.tmp 17) 4), none⟩,
    ⟨(some 19), .op (.load 4 true (.tmp 18)), none⟩,
    ⟨(some 20), .call (.func i_laws_toLink) [(.tmp 19)], none⟩,
    ⟨(some 21), .op (.iaddrS (.tmp 14) (.tmp 15) 4), none⟩,
    ⟨none, .op (.store 4 (.tmp 21) (.tmp 20)), none⟩]) (.kill [14, 15, 16, 17, 18, 19, 20, 21])))
  (.post (.reg [⟨(some 12), .op (.mv (.tmp 4)), none⟩,
    ⟨(some 13), .op (.bin .add (.tmp 12) (.const (Value.int .i64 1))), none⟩,
    ⟨(some 4), .op (.mv (.tmp 13)), none⟩]) (.kill [12, 13]))))
def lo_laws_toLinkS_0 : AC := (.loop lb_laws_toLinkS_0)
def ac_laws_toLinkS : AC := (.seq (.post (.reg [⟨(some 2), .op (.mv (.const (Value.slice none 0 0))), none⟩]) (.kill [2]))
  (.seq (.post (.reg [⟨(some 5), .op (.mv (.tmp 0)), none⟩,
    ⟨(some 6), .op (.len false (.tmp 5)), none⟩,
    ⟨(some 7), .op (.make (.tmp 6) (.tmp 6) 4 40 (Value.agg #[Value.int .i64 0, Value.int .i64 0, Value.string ⟨#[]⟩, Value.int .i64 0])), none⟩,
    ⟨(some 3), .op (.mv (.tmp 7)), none⟩]) (.kill [5, 6, 7]))
  (.seq (.seq (.reg [⟨(some 4), .op (.mv (.const (Value.int .i64 0))), none⟩])
  (.block 0 lo_laws_toLinkS_0))
  (.ghost (.kill [0, 4]) (.seq (.post (.reg [⟨(some 22), .op (.mv (.tmp 3)), none⟩,
    ⟨(some 2), .op (.mv (.tmp 22)), none⟩]) (.kill [3, 22]))
  .ret)))))
theorem cf_laws_toLinkS : chkFn Try.prog i_laws_toLinkS ac_laws_toLinkS [.tmp 2] 23 = true := by decide +kernel
def fa_laws_toLinkS : FnA := ⟨ac_laws_toLinkS, [.tmp 2], 23, false, false, [], .any, none⟩

/-- The checked code of laws toModule. -/
def ac_laws_toModule : AC := (.seq (.post (.reg [⟨(some 1), .op (.box true (.tmp 0)), none⟩,
    ⟨(some 2), .op (.alloc (Value.agg #[Value.int .i64 0, Value.slice none 0 0])), none⟩]) (.kill [0]))
  (.seq (.reg [⟨(some 3), .op (.alloc (Value.agg #[Value.int .i64 0, Value.slice none 0 0])), none⟩])
  (.seq (.post (.reg [⟨(some 4), .op (.faddr (.tmp 1) 0), none⟩,
    ⟨(some 5), .op (.load 1 false (.tmp 4)), none⟩,
    ⟨(some 6), .op (.faddr (.tmp 3) 0), none⟩,
    ⟨none, .op (.store 1 (.tmp 6) (.tmp 5)), none⟩]) (.kill [4, 5, 6]))
  (.seq (.post (.reg [⟨(some 7), .op (.faddr (.tmp 1) 1), none⟩,
    ⟨(some 8), .op (.load 1 false (.tmp 7)), none⟩,
    ⟨(some 9), .call (.func i_laws_toLinkS) [(.tmp 8)], none⟩,
    ⟨(some 10), .op (.faddr (.tmp 3) 1), none⟩,
    ⟨none, .op (.store 1 (.tmp 10) (.tmp 9)), none⟩]) (.kill [1, 7, 8, 9, 10]))
  (.seq (.post (.reg [⟨(some 11), .op (.load 2 true (.tmp 3)), none⟩,
    ⟨none, .op (.store 2 (.tmp 2) (.tmp 11)), none⟩]) (.kill [3, 11]))
  .ret)))))
theorem cf_laws_toModule : chkFn Try.prog i_laws_toModule ac_laws_toModule [.cell 2 2 true] 12 = true := by decide +kernel
def fa_laws_toModule : FnA := ⟨ac_laws_toModule, [.cell 2 2 true], 12, false, false, [], .any, none⟩

/-- The checked code of laws toModuleS. -/
def lb_laws_toModuleS_0 : AC := (.seq (.seq (.post (.reg [⟨(some 8), .op (.mv (.tmp 4)), none⟩,
    ⟨(some 9), .op (.mv (.tmp 0)), none⟩,
    ⟨(some 10), .op (.len false (.tmp 9)), none⟩,
    ⟨(some 11), .op (.bin .lss (.tmp 8) (.tmp 10)), none⟩]) (.kill [8, 9, 10]))
  (.cond (.tmp 11) (.ghost (.kill [11]) .skip)
  (.ghost (.kill [0, 4, 11]) (.exit 0))))
  (.seq (.block 1 (.post (.reg [⟨(some 14), .op (.mv (.tmp 3)), none⟩,
    ⟨(some 15), .op (.mv (.tmp 4)), none⟩,
    ⟨(some 16), .op (.mv (.tmp 0)), none⟩,
    ⟨(some 17), .op (.mv (.tmp 4)), none⟩,
    ⟨(some 18), .op (.iaddrS (.tmp 16) (.tmp 17) 2), none⟩,
    ⟨(some 19), .op (.load 2 true (.tmp 18)), none⟩,
    ⟨(some 20), .call (.func i_laws_toModule) [(.tmp 19)], none⟩,
    ⟨(some 21), .op (.iaddrS (.tmp 14) (.tmp 15) 2), none⟩,
    ⟨none, .op (.store 2 (.tmp 21) (.tmp 20)), none⟩]) (.kill [14, 15, 16, 17, 18, 19, 20, 21])))
  (.post (.reg [⟨(some 12), .op (.mv (.tmp 4)), none⟩,
    ⟨(some 13), .op (.bin .add (.tmp 12) (.const (Value.int .i64 1))), none⟩,
    ⟨(some 4), .op (.mv (.tmp 13)), none⟩]) (.kill [12, 13]))))
def lo_laws_toModuleS_0 : AC := (.loop lb_laws_toModuleS_0)
def ac_laws_toModuleS : AC := (.seq (.post (.reg [⟨(some 2), .op (.mv (.const (Value.slice none 0 0))), none⟩]) (.kill [2]))
  (.seq (.post (.reg [⟨(some 5), .op (.mv (.tmp 0)), none⟩,
    ⟨(some 6), .op (.len false (.tmp 5)), none⟩,
    ⟨(some 7), .op (.make (.tmp 6) (.tmp 6) 2 32 (Value.agg #[Value.int .i64 0, Value.slice none 0 0])), none⟩,
    ⟨(some 3), .op (.mv (.tmp 7)), none⟩]) (.kill [5, 6, 7]))
  (.seq (.seq (.reg [⟨(some 4), .op (.mv (.const (Value.int .i64 0))), none⟩])
  (.block 0 lo_laws_toModuleS_0))
  (.ghost (.kill [0, 4]) (.seq (.post (.reg [⟨(some 22), .op (.mv (.tmp 3)), none⟩,
    ⟨(some 2), .op (.mv (.tmp 22)), none⟩]) (.kill [3, 22]))
  .ret)))))
theorem cf_laws_toModuleS : chkFn Try.prog i_laws_toModuleS ac_laws_toModuleS [.tmp 2] 23 = true := by decide +kernel
def fa_laws_toModuleS : FnA := ⟨ac_laws_toModuleS, [.tmp 2], 23, false, false, [], .any, none⟩

/-- The checked code of laws toProgram. -/
def ac_laws_toProgram : AC := (.seq (.post (.reg [⟨(some 1), .op (.box true (.tmp 0)), none⟩,
    ⟨(some 2), .op (.alloc (Value.agg #[Value.slice none 0 0])), none⟩]) (.kill [0]))
  (.seq (.reg [⟨(some 3), .op (.alloc (Value.agg #[Value.slice none 0 0])), none⟩])
  (.seq (.post (.reg [⟨(some 4), .op (.faddr (.tmp 1) 0), none⟩,
    ⟨(some 5), .op (.load 1 false (.tmp 4)), none⟩,
    ⟨(some 6), .call (.func i_laws_toModuleS) [(.tmp 5)], none⟩,
    ⟨(some 7), .op (.faddr (.tmp 3) 0), none⟩,
    ⟨none, .op (.store 1 (.tmp 7) (.tmp 6)), none⟩]) (.kill [1, 4, 5, 6, 7]))
  (.seq (.post (.reg [⟨(some 8), .op (.load 1 true (.tmp 3)), none⟩,
    ⟨none, .op (.store 1 (.tmp 2) (.tmp 8)), none⟩]) (.kill [3, 8]))
  .ret))))
theorem cf_laws_toProgram : chkFn Try.prog i_laws_toProgram ac_laws_toProgram [.cell 2 1 true] 9 = true := by decide +kernel
def fa_laws_toProgram : FnA := ⟨ac_laws_toProgram, [.cell 2 1 true], 9, false, false, [], .any, none⟩

/-- The checked code of impl Program  exit. -/
def ac_impl_Program_exit : AC := (.seq (.post (.reg [⟨(some 2), .op (.box true (.tmp 0)), none⟩,
    ⟨(some 4), .op (.mv (.const (Value.int .i64 0))), none⟩]) (.kill [0, 4]))
  (.seq (.post (.reg [⟨(some 5), .op (.faddr (.tmp 2) 0), none⟩,
    ⟨(some 6), .op (.load 1 false (.tmp 5)), none⟩,
    ⟨(some 7), .op (.mv (.tmp 1)), none⟩,
    ⟨(some 8), .op (.iaddrS (.tmp 6) (.tmp 7) 2), none⟩,
    ⟨(some 9), .op (.faddr (.tmp 8) 0), none⟩,
    ⟨(some 10), .op (.load 1 false (.tmp 9)), none⟩,
    ⟨(some 11), .op (.bin .sub (.tmp 10) (.const (Value.int .i64 1))), none⟩,
    ⟨(some 4), .op (.mv (.tmp 11)), none⟩]) (.kill [1, 2, 5, 6, 7, 8, 9, 10, 11]))
  .ret))
theorem cf_impl_Program_exit : chkFn Try.prog i_impl_Program_exit ac_impl_Program_exit [.tmp 4] 12 = true := by decide +kernel
def fa_impl_Program_exit : FnA := ⟨ac_impl_Program_exit, [.tmp 4], 12, false, true, [], .any, none⟩

/-- The checked code of impl Program  choices. -/
def lb_impl_Program_choices_0 : AC := (.post (.seq (.reg [⟨(some 34), .op (.bin .lss (.tmp 33) (.tmp 32)), none⟩])
  (.seq (.cond (.tmp 34) (.ghost (.kill [34]) .skip)
  (.ghost (.kill [3, 31, 32, 33, 34]) (.exit 0)))
  (.seq (.block 1 (.seq (.post (.reg [⟨(some 35), .op (.mv (.tmp 33)), none⟩,
    ⟨(some 36), .op (.iaddrS (.tmp 31) (.tmp 33) 4), none⟩,
    ⟨(some 37), .op (.load 4 true (.tmp 36)), none⟩,
    ⟨(some 7), .op (.alloc (Value.agg #[Value.int .i64 0, Value.int .i64 0, Value.string ⟨#[]⟩, Value.int .i64 0])), none⟩,
    ⟨(some 6), .op (.mv (.tmp 35)), none⟩,
    ⟨none, .op (.store 4 (.tmp 7) (.tmp 37)), none⟩]) (.kill [35, 36, 37]))
  (.seq (.post (.reg [⟨(some 38), .op (.faddr (.tmp 7) 0), none⟩,
    ⟨(some 39), .op (.load 1 false (.tmp 38)), none⟩,
    ⟨(some 40), .op (.faddr (.tmp 3) 1), none⟩,
    ⟨(some 41), .op (.load 1 false (.tmp 40)), none⟩,
    ⟨(some 42), .op (.bin .eql (.tmp 39) (.tmp 41)), none⟩]) (.kill [7, 38, 39, 40, 41]))
  (.cond (.tmp 42) (.ghost (.kill [42]) (.post (.post (.reg [⟨(some 43), .op (.mv (.tmp 5)), none⟩,
    ⟨(some 44), .op (.mv (.tmp 6)), none⟩,
    ⟨(some 45), .op (.lits true 1 1 (Value.int .i64 0) [(0, (.tmp 44))]), none⟩,
    ⟨(some 46), .op (.append (.tmp 43) (.tmp 45) 1 8), none⟩,
    ⟨(some 5), .op (.mv (.tmp 46)), none⟩]) (.kill [6, 43, 44, 45, 46])) .nv))
  (.ghost (.kill [6, 42]) .skip)))))
  (.post (.reg [⟨(some 47), .op (.bin .add (.tmp 33) (.const (Value.int .i64 1))), none⟩,
    ⟨(some 33), .op (.mv (.tmp 47)), none⟩]) (.kill [47]))))) .nv)
def lo_impl_Program_choices_0 : AC := (.loop lb_impl_Program_choices_0)
def ac_impl_Program_choices : AC := (.seq (.post (.reg [⟨(some 2), .op (.box true (.tmp 0)), none⟩,
    ⟨(some 3), .op (.box true (.tmp 1)), none⟩,
    ⟨(some 4), .op (.mv (.const (Value.slice none 0 0))), none⟩]) (.kill [0, 1, 4]))
  (.seq (.post (.reg [⟨(some 8), .op (.lits true 1 0 (Value.int .i64 0) []), none⟩,
    ⟨(some 5), .op (.mv (.tmp 8)), none⟩]) (.kill [8]))
  (.seq (.seq (.post (.draw [⟨0, ⟨(some 9), .op (.faddr (.tmp 3) 2), none⟩, []⟩,
    ⟨1, ⟨(some 10), .op (.load 1 false (.tmp 9)), none⟩, []⟩,
    ⟨2, ⟨(some 11), .op (.len false (.tmp 10)), none⟩, []⟩,
    ⟨3, ⟨(some 12), .op (.bin .gtr (.tmp 11) (.const (Value.int .i64 0))), none⟩, []⟩,
    ⟨4, ⟨(some 13), .op (.mv (.tmp 12)), none⟩, []⟩,
    ⟨5, ⟨(some 14), .op (.faddr (.tmp 3) 1), some (13, true)⟩, []⟩,
    ⟨6, ⟨(some 15), .op (.load 1 false (.tmp 14)), some (13, true)⟩, []⟩,
    ⟨7, ⟨(some 16), .op (.load 1 true (.tmp 2)), some (13, true)⟩, []⟩,
    ⟨8, ⟨(some 17), .op (.faddr (.tmp 3) 0), some (13, true)⟩, []⟩,
    ⟨9, ⟨(some 18), .op (.load 1 false (.tmp 17)), some (13, true)⟩, []⟩,
    ⟨10, ⟨(some 19), .call (.func i_impl_Program_exit) [(.tmp 16), (.tmp 18)], some (13, true)⟩, [6]⟩,
    ⟨11, ⟨(some 20), .op (.bin .eql (.tmp 15) (.tmp 19)), some (13, true)⟩, []⟩,
    ⟨12, ⟨(some 21), .op (.pick (.tmp 13) (.tmp 20) (.const (Value.bool false))), none⟩, []⟩]
    [0, 1, 3, 7, 15, 31, 63, 31, 31, 287, 927, 2047, 4095]) (.kill [9, 10, 11, 12, 13, 14, 15, 16, 17, 18, 19, 20]))
  (.cond (.tmp 21) (.ghost (.kill [21]) (.post (.post (.reg [⟨(some 22), .op (.mv (.tmp 5)), none⟩,
    ⟨(some 23), .op (.lits true 1 1 (Value.int .i64 0) [(0, (.const (Value.int .i64 (-1))))]), none⟩,
    ⟨(some 24), .op (.append (.tmp 22) (.tmp 23) 1 8), none⟩,
    ⟨(some 5), .op (.mv (.tmp 24)), none⟩]) (.kill [22, 23, 24])) .nv))
  (.ghost (.kill [21]) .skip)))
  (.seq (.seq (.post (.reg [⟨(some 25), .op (.faddr (.tmp 2) 0), none⟩,
    ⟨(some 26), .op (.load 1 false (.tmp 25)), none⟩,
    ⟨(some 27), .op (.faddr (.tmp 3) 0), none⟩,
    ⟨(some 28), .op (.load 1 false (.tmp 27)), none⟩,
    ⟨(some 29), .op (.iaddrS (.tmp 26) (.tmp 28) 2), none⟩,
    ⟨(some 30), .op (.faddr (.tmp 29) 1), none⟩,
    ⟨(some 31), .op (.load 1 false (.tmp 30)), none⟩,
    ⟨(some 32), .op (.len false (.tmp 31)), none⟩,
    ⟨(some 33), .op (.mv (.const (Value.int .i64 0))), none⟩]) (.kill [2, 25, 26, 27, 28, 29, 30]))
  (.post (.block 0 (.ghost (.ow 5 none 1) (.ghost .nv lo_impl_Program_choices_0))) .nv))
  (.ghost (.kill [3, 31, 32, 33]) (.seq (.post (.reg [⟨(some 48), .op (.mv (.tmp 5)), none⟩,
    ⟨(some 4), .op (.mv (.tmp 48)), none⟩]) (.kill [5, 48]))
  .ret))))))
theorem cf_impl_Program_choices : chkFn Try.prog i_impl_Program_choices ac_impl_Program_choices [.tmp 4] 49 = true := by decide +kernel
def fa_impl_Program_choices : FnA := ⟨ac_impl_Program_choices, [.tmp 4], 49, false, false, [(.agg [(.lst 2 (.agg [.any, (.lst 4 .any)]))]), (.agg [.any, .any, (.lst 1 (.lst 1 .any))])], .any, none⟩

/-- The checked code of impl within. -/
def ac_impl_within : AC := (.seq (.post (.reg [⟨(some 6), .op (.mv (.const (Value.bool false))), none⟩]) (.kill [6]))
  (.seq (.post (.reg [⟨(some 7), .op (.mv (.tmp 0)), none⟩,
    ⟨(some 8), .op (.mv (.tmp 1)), none⟩,
    ⟨(some 9), .op (.bin .geq (.tmp 7) (.tmp 8)), none⟩,
    ⟨(some 10), .op (.mv (.tmp 9)), none⟩,
    ⟨(some 11), .op (.mv (.tmp 0)), some (10, true)⟩,
    ⟨(some 12), .op (.mv (.tmp 2)), some (10, true)⟩,
    ⟨(some 13), .op (.bin .leq (.tmp 11) (.tmp 12)), some (10, true)⟩,
    ⟨(some 14), .op (.pick (.tmp 10) (.tmp 13) (.const (Value.bool false))), none⟩,
    ⟨(some 6), .op (.mv (.tmp 14)), none⟩]) (.kill [0, 1, 2, 7, 8, 9, 10, 11, 12, 13, 14]))
  .ret))
theorem cf_impl_within : chkFn Try.prog i_impl_within ac_impl_within [.tmp 6] 15 = true := by decide +kernel
def fa_impl_within : FnA := ⟨ac_impl_within, [.tmp 6], 15, false, true, [], .any, none⟩

/-- The checked code of impl Module . -/
def ac_impl_size_impl_Module : AC := (.seq (.post (.reg [⟨(some 2), .op (.mv (.const (Value.int .i64 0))), none⟩]) (.kill [2]))
  (.seq (.post (.reg [⟨(some 3), .op (.mv (.tmp 0)), none⟩,
    ⟨(some 4), .op (.len false (.tmp 3)), none⟩,
    ⟨(some 2), .op (.mv (.tmp 4)), none⟩]) (.kill [0, 3, 4]))
  .ret))
theorem cf_impl_size_impl_Module : chkFn Try.prog i_impl_size_impl_Module ac_impl_size_impl_Module [.tmp 2] 5 = true := by decide +kernel
def fa_impl_size_impl_Module : FnA := ⟨ac_impl_size_impl_Module, [.tmp 2], 5, false, true, [], .any, none⟩

/-- The checked code of impl Module . -/
def lb_slices_IndexFunc_L_impl_Module_0 : AC := (.seq (.reg [⟨(some 9), .op (.bin .lss (.tmp 8) (.tmp 7)), none⟩])
  (.seq (.cond (.tmp 9) (.ghost (.kill [9]) .skip)
  (.ghost (.kill [0, 1, 7, 8, 9]) (.exit 0)))
  (.seq (.block 1 (.seq (.post (.reg [⟨(some 10), .op (.mv (.tmp 8)), none⟩,
    ⟨(some 5), .op (.mv (.tmp 10)), none⟩]) (.kill [10]))
  (.seq (.post (.reg [⟨(some 11), .op (.mv (.tmp 1)), none⟩,
    ⟨(some 12), .op (.mv (.tmp 0)), none⟩,
    ⟨(some 13), .op (.mv (.tmp 5)), none⟩,
    ⟨(some 14), .op (.iaddrS (.tmp 12) (.tmp 13) 2), none⟩,
    ⟨(some 15), .op (.load 2 true (.tmp 14)), none⟩,
    ⟨(some 16), .call (.tmp 11) [(.tmp 15)], none⟩]) (.kill [11, 12, 13, 14, 15]))
  (.cond (.tmp 16) (.ghost (.kill [0, 1, 7, 8, 16]) (.seq (.post (.reg [⟨(some 17), .op (.mv (.tmp 5)), none⟩,
    ⟨(some 4), .op (.mv (.tmp 17)), none⟩]) (.kill [5, 17]))
  .ret))
  (.ghost (.kill [5, 16]) .skip)))))
  (.post (.reg [⟨(some 18), .op (.bin .add (.tmp 8) (.const (Value.int .i64 1))), none⟩,
    ⟨(some 8), .op (.mv (.tmp 18)), none⟩]) (.kill [18])))))
def lo_slices_IndexFunc_L_impl_Module_0 : AC := (.loop lb_slices_IndexFunc_L_impl_Module_0)
def ac_slices_IndexFunc_L_impl_Module : AC := (.seq (.post (.reg [⟨(some 4), .op (.mv (.const (Value.int .i64 0))), none⟩]) (.kill [4]))
  (.seq (.seq (.post (.reg [⟨(some 6), .op (.mv (.tmp 0)), none⟩,
    ⟨(some 7), .op (.len false (.tmp 6)), none⟩,
    ⟨(some 8), .op (.mv (.const (Value.int .i64 0))), none⟩]) (.kill [6]))
  (.block 0 lo_slices_IndexFunc_L_impl_Module_0))
  (.ghost (.kill [0, 1, 7, 8]) (.seq (.reg [⟨(some 4), .op (.mv (.const (Value.int .i64 (-1)))), none⟩])
  .ret))))
theorem cf_slices_IndexFunc_L_impl_Module : chkFn Try.prog i_slices_IndexFunc_L_impl_Module ac_slices_IndexFunc_L_impl_Module [.tmp 4] 19 = true := by decide +kernel
def fa_slices_IndexFunc_L_impl_Module : FnA := ⟨ac_slices_IndexFunc_L_impl_Module, [.tmp 4], 19, false, true, [], .any, none⟩

/-- The checked code of impl Module . -/
def ac_slices_ContainsFunc_L_impl_Module : AC := (.seq (.post (.reg [⟨(some 4), .op (.mv (.const (Value.bool false))), none⟩]) (.kill [4]))
  (.seq (.post (.reg [⟨(some 5), .op (.mv (.tmp 0)), none⟩,
    ⟨(some 6), .op (.mv (.tmp 1)), none⟩,
    ⟨(some 7), .call (.func i_slices_IndexFunc_L_impl_Module) [(.tmp 5), (.tmp 6)], none⟩,
    ⟨(some 8), .op (.bin .geq (.tmp 7) (.const (Value.int .i64 0))), none⟩,
    ⟨(some 4), .op (.mv (.tmp 8)), none⟩]) (.kill [0, 1, 5, 6, 7, 8]))
  .ret))
theorem cf_slices_ContainsFunc_L_impl_Module : chkFn Try.prog i_slices_ContainsFunc_L_impl_Module ac_slices_ContainsFunc_L_impl_Module [.tmp 4] 9 = true := by decide +kernel
def fa_slices_ContainsFunc_L_impl_Module : FnA := ⟨ac_slices_ContainsFunc_L_impl_Module, [.tmp 4], 9, false, true, [], .any, none⟩

/-- The checked code of impl Link . -/
def lb_slices_IndexFunc_L_impl_Link_0 : AC := (.seq (.reg [⟨(some 9), .op (.bin .lss (.tmp 8) (.tmp 7)), none⟩])
  (.seq (.cond (.tmp 9) (.ghost (.kill [9]) .skip)
  (.ghost (.kill [0, 1, 7, 8, 9]) (.exit 0)))
  (.seq (.block 1 (.seq (.post (.reg [⟨(some 10), .op (.mv (.tmp 8)), none⟩,
    ⟨(some 5), .op (.mv (.tmp 10)), none⟩]) (.kill [10]))
  (.seq (.post (.reg [⟨(some 11), .op (.mv (.tmp 1)), none⟩,
    ⟨(some 12), .op (.mv (.tmp 0)), none⟩,
    ⟨(some 13), .op (.mv (.tmp 5)), none⟩,
    ⟨(some 14), .op (.iaddrS (.tmp 12) (.tmp 13) 4), none⟩,
    ⟨(some 15), .op (.load 4 true (.tmp 14)), none⟩,
    ⟨(some 16), .call (.tmp 11) [(.tmp 15)], none⟩]) (.kill [11, 12, 13, 14, 15]))
  (.cond (.tmp 16) (.ghost (.kill [0, 1, 7, 8, 16]) (.seq (.post (.reg [⟨(some 17), .op (.mv (.tmp 5)), none⟩,
    ⟨(some 4), .op (.mv (.tmp 17)), none⟩]) (.kill [5, 17]))
  .ret))
  (.ghost (.kill [5, 16]) .skip)))))
  (.post (.reg [⟨(some 18), .op (.bin .add (.tmp 8) (.const (Value.int .i64 1))), none⟩,
    ⟨(some 8), .op (.mv (.tmp 18)), none⟩]) (.kill [18])))))
def lo_slices_IndexFunc_L_impl_Link_0 : AC := (.loop lb_slices_IndexFunc_L_impl_Link_0)
def ac_slices_IndexFunc_L_impl_Link : AC := (.seq (.post (.reg [⟨(some 4), .op (.mv (.const (Value.int .i64 0))), none⟩]) (.kill [4]))
  (.seq (.seq (.post (.reg [⟨(some 6), .op (.mv (.tmp 0)), none⟩,
    ⟨(some 7), .op (.len false (.tmp 6)), none⟩,
    ⟨(some 8), .op (.mv (.const (Value.int .i64 0))), none⟩]) (.kill [6]))
  (.block 0 lo_slices_IndexFunc_L_impl_Link_0))
  (.ghost (.kill [0, 1, 7, 8]) (.seq (.reg [⟨(some 4), .op (.mv (.const (Value.int .i64 (-1)))), none⟩])
  .ret))))
theorem cf_slices_IndexFunc_L_impl_Link : chkFn Try.prog i_slices_IndexFunc_L_impl_Link ac_slices_IndexFunc_L_impl_Link [.tmp 4] 19 = true := by decide +kernel
def fa_slices_IndexFunc_L_impl_Link : FnA := ⟨ac_slices_IndexFunc_L_impl_Link, [.tmp 4], 19, false, true, [], .any, none⟩

/-- The checked code of impl Link . -/
def ac_slices_ContainsFunc_L_impl_Link : AC := (.seq (.post (.reg [⟨(some 4), .op (.mv (.const (Value.bool false))), none⟩]) (.kill [4]))
  (.seq (.post (.reg [⟨(some 5), .op (.mv (.tmp 0)), none⟩,
    ⟨(some 6), .op (.mv (.tmp 1)), none⟩,
    ⟨(some 7), .call (.func i_slices_IndexFunc_L_impl_Link) [(.tmp 5), (.tmp 6)], none⟩,
    ⟨(some 8), .op (.bin .geq (.tmp 7) (.const (Value.int .i64 0))), none⟩,
    ⟨(some 4), .op (.mv (.tmp 8)), none⟩]) (.kill [0, 1, 5, 6, 7, 8]))
  .ret))
theorem cf_slices_ContainsFunc_L_impl_Link : chkFn Try.prog i_slices_ContainsFunc_L_impl_Link ac_slices_ContainsFunc_L_impl_Link [.tmp 4] 9 = true := by decide +kernel
def fa_slices_ContainsFunc_L_impl_Link : FnA := ⟨ac_slices_ContainsFunc_L_impl_Link, [.tmp 4], 9, false, true, [], .any, none⟩

/-- The checked code of impl isCall. -/
def ac_impl_isCall : AC := (.seq (.post (.reg [⟨(some 2), .op (.mv (.const (Value.bool false))), none⟩]) (.kill [2]))
  (.seq (.post (.reg [⟨(some 3), .op (.mv (.tmp 0)), none⟩,
    ⟨(some 4), .op (.bin .eql (.tmp 3) (.const (Value.int .u8 40))), none⟩,
    ⟨(some 5), .op (.mv (.tmp 4)), none⟩,
    ⟨(some 6), .op (.mv (.tmp 0)), some (5, false)⟩,
    ⟨(some 7), .op (.bin .eql (.tmp 6) (.const (Value.int .u8 91))), some (5, false)⟩,
    ⟨(some 8), .op (.pick (.tmp 5) (.const (Value.bool true)) (.tmp 7)), none⟩,
    ⟨(some 2), .op (.mv (.tmp 8)), none⟩]) (.kill [0, 3, 4, 5, 6, 7, 8]))
  .ret))
theorem cf_impl_isCall : chkFn Try.prog i_impl_isCall ac_impl_isCall [.tmp 2] 9 = true := by decide +kernel
def fa_impl_isCall : FnA := ⟨ac_impl_isCall, [.tmp 2], 9, false, true, [], .any, none⟩

/-- The checked code of impl isReturn. -/
def ac_impl_isReturn : AC := (.seq (.post (.reg [⟨(some 2), .op (.mv (.const (Value.bool false))), none⟩]) (.kill [2]))
  (.seq (.post (.reg [⟨(some 3), .op (.mv (.tmp 0)), none⟩,
    ⟨(some 4), .op (.bin .eql (.tmp 3) (.const (Value.int .u8 41))), none⟩,
    ⟨(some 5), .op (.mv (.tmp 4)), none⟩,
    ⟨(some 6), .op (.mv (.tmp 0)), some (5, false)⟩,
    ⟨(some 7), .op (.bin .eql (.tmp 6) (.const (Value.int .u8 93))), some (5, false)⟩,
    ⟨(some 8), .op (.pick (.tmp 5) (.const (Value.bool true)) (.tmp 7)), none⟩,
    ⟨(some 2), .op (.mv (.tmp 8)), none⟩]) (.kill [0, 3, 4, 5, 6, 7, 8]))
  .ret))
theorem cf_impl_isReturn : chkFn Try.prog i_impl_isReturn ac_impl_isReturn [.tmp 2] 9 = true := by decide +kernel
def fa_impl_isReturn : FnA := ⟨ac_impl_isReturn, [.tmp 2], 9, false, true, [], .any, none⟩

/-- The checked code of impl isBrackets. -/
def ac_impl_isBrackets : AC := (.seq (.post (.reg [⟨(some 2), .op (.mv (.const (Value.bool false))), none⟩]) (.kill [2]))
  (.seq (.post (.reg [⟨(some 3), .op (.mv (.tmp 0)), none⟩,
    ⟨(some 4), .op (.len true (.tmp 3)), none⟩,
    ⟨(some 5), .op (.bin .eql (.tmp 4) (.const (Value.int .i64 2))), none⟩,
    ⟨(some 6), .op (.mv (.tmp 5)), none⟩,
    ⟨(some 7), .op (.mv (.tmp 0)), some (6, true)⟩,
    ⟨(some 8), .op (.idxStr (.tmp 7) (.const (Value.int .i64 0))), some (6, true)⟩,
    ⟨(some 9), .call (.func i_impl_isCall) [(.tmp 8)], some (6, true)⟩,
    ⟨(some 10), .op (.pick (.tmp 6) (.tmp 9) (.const (Value.bool false))), none⟩,
    ⟨(some 11), .op (.mv (.tmp 10)), none⟩,
    ⟨(some 12), .op (.mv (.tmp 0)), some (11, true)⟩,
    ⟨(some 13), .op (.idxStr (.tmp 12) (.const (Value.int .i64 1))), some (11, true)⟩,
    ⟨(some 14), .call (.func i_impl_isReturn) [(.tmp 13)], some (11, true)⟩,
    ⟨(some 15), .op (.pick (.tmp 11) (.tmp 14) (.const (Value.bool false))), none⟩,
    ⟨(some 2), .op (.mv (.tmp 15)), none⟩]) (.kill [0, 3, 4, 5, 6, 7, 8, 9, 10, 11, 12, 13, 14, 15]))
  .ret))
theorem cf_impl_isBrackets : chkFn Try.prog i_impl_isBrackets ac_impl_isBrackets [.tmp 2] 16 = true := by decide +kernel
def fa_impl_isBrackets : FnA := ⟨ac_impl_isBrackets, [.tmp 2], 16, false, true, [], .any, none⟩

/-- The checked code of impl isLetter. -/
def ac_impl_isLetter : AC := (.seq (.post (.reg [⟨(some 2), .op (.mv (.const (Value.bool false))), none⟩]) (.kill [2]))
  (.seq (.post (.reg [⟨(some 3), .op (.mv (.tmp 0)), none⟩,
    ⟨(some 4), .op (.bin .eql (.tmp 3) (.const (Value.string ⟨#[97]⟩))), none⟩,
    ⟨(some 5), .op (.mv (.tmp 4)), none⟩,
    ⟨(some 6), .op (.mv (.tmp 0)), some (5, false)⟩,
    ⟨(some 7), .op (.bin .eql (.tmp 6) (.const (Value.string ⟨#[98]⟩))), some (5, false)⟩,
    ⟨(some 8), .op (.pick (.tmp 5) (.const (Value.bool true)) (.tmp 7)), none⟩,
    ⟨(some 2), .op (.mv (.tmp 8)), none⟩]) (.kill [0, 3, 4, 5, 6, 7, 8]))
  .ret))
theorem cf_impl_isLetter : chkFn Try.prog i_impl_isLetter ac_impl_isLetter [.tmp 2] 9 = true := by decide +kernel
def fa_impl_isLetter : FnA := ⟨ac_impl_isLetter, [.tmp 2], 9, false, true, [], .any, none⟩

/-- The checked code of impl ValidProgram 1 1. -/
def ac_impl_ValidProgram_1_1 : AC := (.seq (.post (.reg [⟨(some 3), .op (.box true (.tmp 0)), none⟩,
    ⟨(some 4), .op (.mv (.const (Value.bool false))), none⟩]) (.kill [0, 4]))
  (.seq (.seq (.post (.reg [⟨(some 5), .op (.faddr (.tmp 3) 0), none⟩,
    ⟨(some 6), .op (.load 1 false (.tmp 5)), none⟩,
    ⟨(some 7), .op (.faddr (.tmp 1) 0), none⟩,
    ⟨(some 8), .op (.load 1 false (.tmp 7)), none⟩,
    ⟨(some 9), .op (.bin .sub (.tmp 8) (.const (Value.int .i64 1))), none⟩,
    ⟨(some 10), .call (.func i_impl_within) [(.tmp 6), (.const (Value.int .i64 0)), (.tmp 9)], none⟩,
    ⟨(some 11), .op (.un .not (.tmp 10)), none⟩,
    ⟨(some 12), .op (.mv (.tmp 11)), none⟩,
    ⟨(some 13), .op (.faddr (.tmp 3) 1), some (12, false)⟩,
    ⟨(some 14), .op (.load 1 false (.tmp 13)), some (12, false)⟩,
    ⟨(some 15), .op (.faddr (.tmp 1) 0), some (12, false)⟩,
    ⟨(some 16), .op (.load 1 false (.tmp 15)), some (12, false)⟩,
    ⟨(some 17), .op (.bin .sub (.tmp 16) (.const (Value.int .i64 1))), some (12, false)⟩,
    ⟨(some 18), .call (.func i_impl_within) [(.tmp 14), (.const (Value.int .i64 0)), (.tmp 17)], some (12, false)⟩,
    ⟨(some 19), .op (.un .not (.tmp 18)), some (12, false)⟩,
    ⟨(some 20), .op (.pick (.tmp 12) (.const (Value.bool true)) (.tmp 19)), none⟩,
    ⟨(some 21), .op (.mv (.tmp 20)), none⟩,
    ⟨(some 22), .op (.faddr (.tmp 3) 3), some (21, false)⟩,
    ⟨(some 23), .op (.load 1 false (.tmp 22)), some (21, false)⟩,
    ⟨(some 24), .op (.load 1 false (.tmp 2)), some (21, false)⟩,
    ⟨(some 25), .op (.bin .sub (.tmp 24) (.const (Value.int .i64 1))), some (21, false)⟩,
    ⟨(some 26), .call (.func i_impl_within) [(.tmp 23), (.const (Value.int .i64 0)), (.tmp 25)], some (21, false)⟩,
    ⟨(some 27), .op (.un .not (.tmp 26)), some (21, false)⟩,
    ⟨(some 28), .op (.pick (.tmp 21) (.const (Value.bool true)) (.tmp 27)), none⟩]) (.kill [1, 2, 5, 6, 7, 8, 9, 10, 11, 12, 13, 14, 15, 16, 17, 18, 19, 20, 21, 22, 23, 24, 25, 26, 27]))
  (.cond (.tmp 28) (.ghost (.kill [3, 28]) (.seq (.reg [⟨(some 4), .op (.mv (.const (Value.bool true))), none⟩])
  .ret))
  (.ghost (.kill [28]) .skip)))
  (.seq (.post (.reg [⟨(some 29), .op (.faddr (.tmp 3) 2), none⟩,
    ⟨(some 30), .op (.load 1 false (.tmp 29)), none⟩,
    ⟨(some 31), .call (.func i_impl_isBrackets) [(.tmp 30)], none⟩,
    ⟨(some 32), .op (.un .not (.tmp 31)), none⟩,
    ⟨(some 33), .op (.mv (.tmp 32)), none⟩,
    ⟨(some 34), .op (.faddr (.tmp 3) 2), some (33, true)⟩,
    ⟨(some 35), .op (.load 1 false (.tmp 34)), some (33, true)⟩,
    ⟨(some 36), .call (.func i_impl_isLetter) [(.tmp 35)], some (33, true)⟩,
    ⟨(some 37), .op (.un .not (.tmp 36)), some (33, true)⟩,
    ⟨(some 38), .op (.mv (.tmp 37)), some (33, true)⟩,
    ⟨(some 39), .op (.faddr (.tmp 3) 3), some (38, false)⟩,
    ⟨(some 40), .op (.load 1 false (.tmp 39)), some (38, false)⟩,
    ⟨(some 41), .op (.bin .neq (.tmp 40) (.const (Value.int .i64 0))), some (38, false)⟩,
    ⟨(some 42), .op (.pick (.tmp 38) (.const (Value.bool true)) (.tmp 41)), some (33, true)⟩,
    ⟨(some 43), .op (.pick (.tmp 33) (.tmp 42) (.const (Value.bool false))), none⟩,
    ⟨(some 4), .op (.mv (.tmp 43)), none⟩]) (.kill [3, 29, 30, 31, 32, 33, 34, 35, 36, 37, 38, 39, 40, 41, 42, 43]))
  .ret)))
theorem cf_impl_ValidProgram_1_1 : chkFn Try.prog i_impl_ValidProgram_1_1 ac_impl_ValidProgram_1_1 [.tmp 4] 44 = true := by decide +kernel
def fa_impl_ValidProgram_1_1 : FnA := ⟨ac_impl_ValidProgram_1_1, [.tmp 4], 44, false, true, [], .any, none⟩

/-- The checked code of impl ValidProgram 1. -/
def ac_impl_ValidProgram_1 : AC := (.seq (.post (.reg [⟨(some 2), .op (.box true (.tmp 0)), none⟩,
    ⟨(some 3), .op (.mv (.const (Value.bool false))), none⟩]) (.kill [0, 3]))
  (.seq (.post (.reg [⟨(some 4), .op (.faddr (.tmp 2) 0), none⟩,
    ⟨(some 5), .op (.load 1 false (.tmp 4)), none⟩,
    ⟨(some 6), .call (.func i_impl_within) [(.tmp 5), (.const (Value.int .i64 1)), (.const (Value.int .i64 8))], none⟩,
    ⟨(some 7), .op (.un .not (.tmp 6)), none⟩,
    ⟨(some 8), .op (.mv (.tmp 7)), none⟩,
    ⟨(some 9), .op (.faddr (.tmp 2) 1), some (8, false)⟩,
    ⟨(some 10), .op (.load 1 false (.tmp 9)), some (8, false)⟩,
    ⟨(some 11), .op (.len false (.tmp 10)), some (8, false)⟩,
    ⟨(some 12), .op (.bin .gtr (.tmp 11) (.const (Value.int .i64 12))), some (8, false)⟩,
    ⟨(some 13), .op (.pick (.tmp 8) (.const (Value.bool true)) (.tmp 12)), none⟩,
    ⟨(some 14), .op (.mv (.tmp 13)), none⟩,
    ⟨(some 15), .op (.faddr (.tmp 2) 1), some (14, false)⟩,
    ⟨(some 16), .op (.load 1 false (.tmp 15)), some (14, false)⟩,
    ⟨(some 17), .op (.mkfn i_impl_ValidProgram_1_1 [(.tmp 2), (.tmp 1)]), some (14, false)⟩,
    ⟨(some 18), .call (.func i_slices_ContainsFunc_L_impl_Link) [(.tmp 16), (.tmp 17)], some (14, false)⟩,
    ⟨(some 19), .op (.pick (.tmp 14) (.const (Value.bool true)) (.tmp 18)), none⟩,
    ⟨(some 3), .op (.mv (.tmp 19)), none⟩]) (.kill [1, 2, 4, 5, 6, 7, 8, 9, 10, 11, 12, 13, 14, 15, 16, 17, 18, 19]))
  .ret))
theorem cf_impl_ValidProgram_1 : chkFn Try.prog i_impl_ValidProgram_1 ac_impl_ValidProgram_1 [.tmp 3] 20 = true := by decide +kernel
def fa_impl_ValidProgram_1 : FnA := ⟨ac_impl_ValidProgram_1, [.tmp 3], 20, false, true, [], .any, none⟩

/-- The checked code of impl ValidProgram. -/
def ac_impl_ValidProgram : AC := (.seq (.post (.reg [⟨(some 1), .op (.box true (.tmp 0)), none⟩,
    ⟨(some 2), .op (.mv (.const (Value.bool false))), none⟩]) (.kill [0, 2]))
  (.seq (.post (.reg [⟨(some 4), .op (.faddr (.tmp 1) 0), none⟩,
    ⟨(some 5), .op (.load 1 false (.tmp 4)), none⟩,
    ⟨(some 6), .call (.func i_impl_size_impl_Module) [(.tmp 5)], none⟩,
    ⟨(some 3), .op (.alloc (Value.int .i64 0)), none⟩,
    ⟨none, .op (.store 1 (.tmp 3) (.tmp 6)), none⟩]) (.kill [4, 5, 6]))
  (.seq (.post (.reg [⟨(some 7), .op (.load 1 false (.tmp 3)), none⟩,
    ⟨(some 8), .call (.func i_impl_within) [(.tmp 7), (.const (Value.int .i64 1)), (.const (Value.int .i64 4))], none⟩,
    ⟨(some 9), .op (.mv (.tmp 8)), none⟩,
    ⟨(some 10), .op (.faddr (.tmp 1) 0), some (9, true)⟩,
    ⟨(some 11), .op (.load 1 false (.tmp 10)), some (9, true)⟩,
    ⟨(some 12), .op (.mkfn i_impl_ValidProgram_1 [(.tmp 3)]), some (9, true)⟩,
    ⟨(some 13), .call (.func i_slices_ContainsFunc_L_impl_Module) [(.tmp 11), (.tmp 12)], some (9, true)⟩,
    ⟨(some 14), .op (.un .not (.tmp 13)), some (9, true)⟩,
    ⟨(some 15), .op (.pick (.tmp 9) (.tmp 14) (.const (Value.bool false))), none⟩,
    ⟨(some 2), .op (.mv (.tmp 15)), none⟩]) (.kill [1, 3, 7, 8, 9, 10, 11, 12, 13, 14, 15]))
  .ret)))
theorem cf_impl_ValidProgram : chkFn Try.prog i_impl_ValidProgram ac_impl_ValidProgram [.tmp 2] 16 = true := by decide +kernel
def fa_impl_ValidProgram : FnA := ⟨ac_impl_ValidProgram, [.tmp 2], 16, false, true, [], .any, none⟩

/-- The checked code of slices Index   int64 int64 . -/
def lb_slices_Index_L_int64_0 : AC := (.seq (.reg [⟨(some 9), .op (.bin .lss (.tmp 8) (.tmp 7)), none⟩])
  (.seq (.cond (.tmp 9) (.ghost (.kill [9]) .skip)
  (.ghost (.kill [0, 1, 7, 8, 9]) (.exit 0)))
  (.seq (.block 1 (.seq (.post (.reg [⟨(some 10), .op (.mv (.tmp 8)), none⟩,
    ⟨(some 5), .op (.mv (.tmp 10)), none⟩]) (.kill [10]))
  (.seq (.post (.reg [⟨(some 11), .op (.mv (.tmp 1)), none⟩,
    ⟨(some 12), .op (.mv (.tmp 0)), none⟩,
    ⟨(some 13), .op (.mv (.tmp 5)), none⟩,
    ⟨(some 14), .op (.iaddrS (.tmp 12) (.tmp 13) 1), none⟩,
    ⟨(some 15), .op (.load 1 false (.tmp 14)), none⟩,
    ⟨(some 16), .op (.bin .eql (.tmp 11) (.tmp 15)), none⟩]) (.kill [11, 12, 13, 14, 15]))
  (.cond (.tmp 16) (.ghost (.kill [0, 1, 7, 8, 16]) (.seq (.post (.reg [⟨(some 17), .op (.mv (.tmp 5)), none⟩,
    ⟨(some 4), .op (.mv (.tmp 17)), none⟩]) (.kill [5, 17]))
  .ret))
  (.ghost (.kill [5, 16]) .skip)))))
  (.post (.reg [⟨(some 18), .op (.bin .add (.tmp 8) (.const (Value.int .i64 1))), none⟩,
    ⟨(some 8), .op (.mv (.tmp 18)), none⟩]) (.kill [18])))))
def lo_slices_Index_L_int64_0 : AC := (.loop lb_slices_Index_L_int64_0)
def ac_slices_Index_L_int64 : AC := (.seq (.post (.reg [⟨(some 4), .op (.mv (.const (Value.int .i64 0))), none⟩]) (.kill [4]))
  (.seq (.seq (.post (.reg [⟨(some 6), .op (.mv (.tmp 0)), none⟩,
    ⟨(some 7), .op (.len false (.tmp 6)), none⟩,
    ⟨(some 8), .op (.mv (.const (Value.int .i64 0))), none⟩]) (.kill [6]))
  (.block 0 lo_slices_Index_L_int64_0))
  (.ghost (.kill [0, 1, 7, 8]) (.seq (.reg [⟨(some 4), .op (.mv (.const (Value.int .i64 (-1)))), none⟩])
  .ret))))
theorem cf_slices_Index_L_int64 : chkFn Try.prog i_slices_Index_L_int64 ac_slices_Index_L_int64 [.tmp 4] 19 = true := by decide +kernel
def fa_slices_Index_L_int64 : FnA := ⟨ac_slices_Index_L_int64, [.tmp 4], 19, false, true, [], .any, none⟩

/-- The checked code of slices Contains   int64 int64 . -/
def ac_slices_Contains_L_int64 : AC := (.seq (.post (.reg [⟨(some 4), .op (.mv (.const (Value.bool false))), none⟩]) (.kill [4]))
  (.seq (.post (.reg [⟨(some 5), .op (.mv (.tmp 0)), none⟩,
    ⟨(some 6), .op (.mv (.tmp 1)), none⟩,
    ⟨(some 7), .call (.func i_slices_Index_L_int64) [(.tmp 5), (.tmp 6)], none⟩,
    ⟨(some 8), .op (.bin .geq (.tmp 7) (.const (Value.int .i64 0))), none⟩,
    ⟨(some 4), .op (.mv (.tmp 8)), none⟩]) (.kill [0, 1, 5, 6, 7, 8]))
  .ret))
theorem cf_slices_Contains_L_int64 : chkFn Try.prog i_slices_Contains_L_int64 ac_slices_Contains_L_int64 [.tmp 4] 9 = true := by decide +kernel
def fa_slices_Contains_L_int64 : FnA := ⟨ac_slices_Contains_L_int64, [.tmp 4], 9, false, true, [], .any, none⟩

/-- The checked code of impl Link  isCallLink. -/
def ac_impl_Link_isCallLink : AC := (.seq (.post (.reg [⟨(some 1), .op (.box true (.tmp 0)), none⟩,
    ⟨(some 2), .op (.mv (.const (Value.bool false))), none⟩]) (.kill [0, 2]))
  (.seq (.post (.reg [⟨(some 3), .op (.faddr (.tmp 1) 2), none⟩,
    ⟨(some 4), .op (.load 1 false (.tmp 3)), none⟩,
    ⟨(some 5), .op (.len true (.tmp 4)), none⟩,
    ⟨(some 6), .op (.bin .eql (.tmp 5) (.const (Value.int .i64 2))), none⟩,
    ⟨(some 2), .op (.mv (.tmp 6)), none⟩]) (.kill [1, 3, 4, 5, 6]))
  .ret))
theorem cf_impl_Link_isCallLink : chkFn Try.prog i_impl_Link_isCallLink ac_impl_Link_isCallLink [.tmp 2] 7 = true := by decide +kernel
def fa_impl_Link_isCallLink : FnA := ⟨ac_impl_Link_isCallLink, [.tmp 2], 7, false, true, [], .any, none⟩

/-- The checked code of slices Clip     int64   int64 . -/
def ac_slices_Clip_L_L_int64 : AC := (.seq (.post (.reg [⟨(some 2), .op (.mv (.const (Value.slice none 0 0))), none⟩]) (.kill [2]))
  (.seq (.post (.reg [⟨(some 3), .op (.mv (.tmp 0)), none⟩,
    ⟨(some 4), .op (.mv (.tmp 0)), none⟩,
    ⟨(some 5), .op (.len false (.tmp 4)), none⟩,
    ⟨(some 6), .op (.mv (.tmp 0)), none⟩,
    ⟨(some 7), .op (.len false (.tmp 6)), none⟩,
    ⟨(some 8), .op (.slcS (.tmp 3) none (some (.tmp 5)) (some (.tmp 7)) 1), none⟩,
    ⟨(some 2), .op (.mv (.tmp 8)), none⟩]) (.kill [0, 3, 4, 5, 6, 7, 8]))
  .ret))
theorem cf_slices_Clip_L_L_int64 : chkFn Try.prog i_slices_Clip_L_L_int64 ac_slices_Clip_L_L_int64 [.tmp 2] 9 = true := by decide +kernel
def fa_slices_Clip_L_L_int64 : FnA := ⟨ac_slices_Clip_L_L_int64, [.tmp 2], 9, false, true, [], .any, none⟩

/-- The checked code of impl Program  choose. -/
def ac_impl_Program_choose : AC := (.seq (.post (.reg [⟨(some 3), .op (.box true (.tmp 0)), none⟩,
    ⟨(some 4), .op (.box true (.tmp 1)), none⟩,
    ⟨(some 6), .op (.alloc (Value.agg #[Value.int .i64 0, Value.int .i64 0, Value.slice none 0 0])), none⟩,
    ⟨(some 7), .op (.mv (.const (Value.string ⟨#[]⟩))), none⟩]) (.kill [0, 1, 7]))
  (.seq (.seq (.post (.reg [⟨(some 12), .op (.mv (.tmp 2)), none⟩,
    ⟨(some 13), .op (.bin .eql (.tmp 12) (.const (Value.int .i64 (-1)))), none⟩]) (.kill [12]))
  (.cond (.tmp 13) (.ghost (.kill [2, 13]) (.seq (.post (.reg [⟨(some 14), .op (.faddr (.tmp 4) 2), none⟩,
    ⟨(some 15), .op (.load 1 false (.tmp 14)), none⟩,
    ⟨(some 16), .op (.len false (.tmp 15)), none⟩,
    ⟨(some 17), .op (.bin .sub (.tmp 16) (.const (Value.int .i64 1))), none⟩,
    ⟨(some 8), .op (.mv (.tmp 17)), none⟩]) (.kill [14, 15, 16, 17]))
  (.seq (.post (.reg [⟨(some 18), .op (.faddr (.tmp 4) 2), none⟩,
    ⟨(some 19), .op (.load 1 false (.tmp 18)), none⟩,
    ⟨(some 20), .op (.mv (.tmp 8)), none⟩,
    ⟨(some 21), .op (.iaddrS (.tmp 19) (.tmp 20) 1), none⟩,
    ⟨(some 22), .op (.load 1 false (.tmp 21)), none⟩,
    ⟨(some 9), .op (.mv (.tmp 22)), none⟩]) (.kill [18, 19, 20, 21, 22]))
  (.seq (.post (.draw [⟨0, ⟨(some 23), .op (.faddr (.tmp 3) 0), none⟩, []⟩,
    ⟨1, ⟨(some 24), .op (.load 1 false (.tmp 23)), none⟩, []⟩,
    ⟨2, ⟨(some 25), .op (.mv (.tmp 9)), none⟩, []⟩,
    ⟨3, ⟨(some 26), .op (.iaddrS (.tmp 25) (.const (Value.int .i64 0)) 1), none⟩, []⟩,
    ⟨4, ⟨(some 27), .op (.load 1 false (.tmp 26)), none⟩, []⟩,
    ⟨5, ⟨(some 28), .op (.iaddrS (.tmp 24) (.tmp 27) 2), none⟩, []⟩,
    ⟨6, ⟨(some 29), .op (.faddr (.tmp 28) 1), none⟩, []⟩,
    ⟨7, ⟨(some 30), .op (.load 1 false (.tmp 29)), none⟩, []⟩,
    ⟨8, ⟨(some 31), .op (.mv (.tmp 9)), none⟩, []⟩,
    ⟨9, ⟨(some 32), .op (.iaddrS (.tmp 31) (.const (Value.int .i64 1)) 1), none⟩, []⟩,
    ⟨10, ⟨(some 33), .op (.load 1 false (.tmp 32)), none⟩, []⟩,
    ⟨11, ⟨(some 34), .op (.iaddrS (.tmp 30) (.tmp 33) 4), none⟩, []⟩,
    ⟨12, ⟨(some 35), .op (.load 4 true (.tmp 34)), none⟩, []⟩,
    ⟨13, ⟨(some 10), .op (.alloc (Value.agg #[Value.int .i64 0, Value.int .i64 0, Value.string ⟨#[]⟩, Value.int .i64 0])), none⟩, [1, 3, 4, 5, 7, 9, 10, 11, 12]⟩,
    ⟨14, ⟨none, .op (.store 4 (.tmp 10) (.tmp 35)), none⟩, []⟩]
    [0, 1, 0, 4, 12, 31, 63, 127, 0, 256, 768, 2047, 4095, 0, 16383]) (.kill [3, 23, 24, 25, 26, 27, 28, 29, 30, 31, 32, 33, 34, 35]))
  (.seq (.post (.post (.draw [⟨0, ⟨(some 36), .op (.mv (.tmp 9)), none⟩, []⟩,
    ⟨1, ⟨(some 37), .op (.iaddrS (.tmp 36) (.const (Value.int .i64 0)) 1), none⟩, []⟩,
    ⟨2, ⟨(some 38), .op (.load 1 false (.tmp 37)), none⟩, []⟩,
    ⟨3, ⟨(some 39), .op (.faddr (.tmp 10) 1), none⟩, []⟩,
    ⟨4, ⟨(some 40), .op (.load 1 false (.tmp 39)), none⟩, []⟩,
    ⟨5, ⟨(some 41), .op (.faddr (.tmp 4) 2), none⟩, []⟩,
    ⟨6, ⟨(some 42), .op (.load 1 false (.tmp 41)), none⟩, []⟩,
    ⟨7, ⟨(some 43), .op (.mv (.tmp 8)), none⟩, []⟩,
    ⟨8, ⟨(some 44), .op (.slcS (.tmp 42) none (some (.tmp 43)) none 1), none⟩, []⟩,
    ⟨9, ⟨(some 45), .op (.build [Value.int .i64 0, Value.int .i64 0, Value.slice none 0 0] [(0, 1, (.tmp 38)), (1, 1, (.tmp 40)), (2, 1, (.tmp 44))]), none⟩, []⟩,
    ⟨10, ⟨(some 46), .op (.faddr (.tmp 10) 2), none⟩, []⟩,
    ⟨11, ⟨(some 47), .op (.load 1 false (.tmp 46)), none⟩, []⟩,
    ⟨12, ⟨(some 48), .op (.slcStr (.tmp 47) (some (.const (Value.int .i64 1))) none), none⟩, []⟩,
    ⟨13, ⟨none, .op (.store 3 (.tmp 6) (.tmp 45)), none⟩, [11]⟩,
    ⟨14, ⟨(some 7), .op (.mv (.tmp 48)), none⟩, []⟩]
    [0, 1, 3, 0, 8, 0, 32, 0, 224, 511, 0, 1024, 3072, 1023, 16383]) (.kill [4, 8, 9, 10, 36, 37, 38, 39, 40, 41, 42, 43, 44, 45, 46, 47, 48])) .nv)
  .ret)))))
  (.ghost (.kill [13]) .skip)))
  (.seq (.post (.reg [⟨(some 49), .op (.faddr (.tmp 3) 0), none⟩,
    ⟨(some 50), .op (.load 1 false (.tmp 49)), none⟩,
    ⟨(some 51), .op (.faddr (.tmp 4) 0), none⟩,
    ⟨(some 52), .op (.load 1 false (.tmp 51)), none⟩,
    ⟨(some 53), .op (.iaddrS (.tmp 50) (.tmp 52) 2), none⟩,
    ⟨(some 54), .op (.faddr (.tmp 53) 1), none⟩,
    ⟨(some 55), .op (.load 1 false (.tmp 54)), none⟩,
    ⟨(some 56), .op (.mv (.tmp 2)), none⟩,
    ⟨(some 57), .op (.iaddrS (.tmp 55) (.tmp 56) 4), none⟩,
    ⟨(some 58), .op (.load 4 true (.tmp 57)), none⟩,
    ⟨(some 11), .op (.alloc (Value.agg #[Value.int .i64 0, Value.int .i64 0, Value.string ⟨#[]⟩, Value.int .i64 0])), none⟩,
    ⟨none, .op (.store 4 (.tmp 11) (.tmp 58)), none⟩]) (.kill [3, 49, 50, 51, 52, 53, 54, 55, 56, 57, 58]))
  (.seq (.seq (.post (.reg [⟨(some 59), .op (.load 4 true (.tmp 11)), none⟩,
    ⟨(some 60), .call (.func i_impl_Link_isCallLink) [(.tmp 59)], none⟩]) (.kill [59]))
  (.cond (.tmp 60) (.ghost (.kill [60]) (.seq (.post (.post (.draw [⟨0, ⟨(some 61), .op (.faddr (.tmp 11) 3), none⟩, []⟩,
    ⟨1, ⟨(some 62), .op (.load 1 false (.tmp 61)), none⟩, []⟩,
    ⟨2, ⟨(some 63), .op (.faddr (.tmp 4) 2), none⟩, []⟩,
    ⟨3, ⟨(some 64), .op (.load 1 false (.tmp 63)), none⟩, []⟩,
    ⟨5, ⟨(some 66), .op (.faddr (.tmp 4) 0), none⟩, []⟩,
    ⟨6, ⟨(some 67), .op (.load 1 false (.tmp 66)), none⟩, []⟩,
    ⟨7, ⟨(some 68), .op (.mv (.tmp 2)), none⟩, []⟩,
    ⟨8, ⟨(some 69), .op (.lits true 1 2 (Value.int .i64 0) [(0, (.tmp 67)), (1, (.tmp 68))]), none⟩, []⟩,
    ⟨9, ⟨(some 70), .op (.lits true 1 1 (Value.slice none 0 0) [(0, (.tmp 69))]), none⟩, []⟩,
    ⟨12, ⟨(some 73), .op (.faddr (.tmp 11) 2), none⟩, []⟩,
    ⟨13, ⟨(some 74), .op (.load 1 false (.tmp 73)), none⟩, []⟩,
    ⟨14, ⟨(some 75), .op (.slcStr (.tmp 74) none (some (.const (Value.int .i64 1)))), none⟩, []⟩,
    ⟨4, ⟨(some 65), .call (.func i_slices_Clip_L_L_int64) [(.tmp 64)], none⟩, [1, 6, 13]⟩,
    ⟨10, ⟨(some 71), .op (.append (.tmp 65) (.tmp 70) 1 24), none⟩, [1, 13]⟩,
    ⟨11, ⟨(some 72), .op (.build [Value.int .i64 0, Value.int .i64 0, Value.slice none 0 0] [(0, 1, (.tmp 62)), (2, 1, (.tmp 71))]), none⟩, []⟩,
    ⟨15, ⟨none, .op (.store 3 (.tmp 6) (.tmp 72)), none⟩, [13]⟩,
    ⟨16, ⟨(some 7), .op (.mv (.tmp 75)), none⟩, []⟩]
    [0, 1, 0, 4, 12, 0, 32, 0, 224, 480, 1020, 2047, 0, 4096, 12288, 4095, 65535]) (.kill [2, 4, 11, 61, 62, 63, 64, 65, 66, 67, 68, 69, 70, 71, 72, 73, 74, 75])) .nv)
  .ret))
  (.ghost (.kill [2, 60]) .skip)))
  (.seq (.post (.draw [⟨0, ⟨(some 76), .op (.faddr (.tmp 4) 0), none⟩, []⟩,
    ⟨1, ⟨(some 77), .op (.load 1 false (.tmp 76)), none⟩, []⟩,
    ⟨2, ⟨(some 78), .op (.faddr (.tmp 11) 1), none⟩, []⟩,
    ⟨3, ⟨(some 79), .op (.load 1 false (.tmp 78)), none⟩, []⟩,
    ⟨4, ⟨(some 80), .op (.faddr (.tmp 4) 2), none⟩, []⟩,
    ⟨5, ⟨(some 81), .op (.load 1 false (.tmp 80)), none⟩, []⟩,
    ⟨6, ⟨(some 82), .op (.build [Value.int .i64 0, Value.int .i64 0, Value.slice none 0 0] [(0, 1, (.tmp 77)), (1, 1, (.tmp 79)), (2, 1, (.tmp 81))]), none⟩, []⟩,
    ⟨7, ⟨(some 83), .op (.faddr (.tmp 11) 2), none⟩, []⟩,
    ⟨8, ⟨(some 84), .op (.load 1 false (.tmp 83)), none⟩, []⟩,
    ⟨9, ⟨none, .op (.store 3 (.tmp 6) (.tmp 82)), none⟩, [8]⟩,
    ⟨10, ⟨(some 7), .op (.mv (.tmp 84)), none⟩, []⟩]
    [0, 1, 0, 4, 0, 16, 63, 0, 128, 127, 1023]) (.kill [4, 11, 76, 77, 78, 79, 80, 81, 82, 83, 84]))
  .ret)))))
theorem cf_impl_Program_choose : chkFn Try.prog i_impl_Program_choose ac_impl_Program_choose [.cell 6 3 true, .tmp 7] 85 = true := by decide +kernel
def fa_impl_Program_choose : FnA := ⟨ac_impl_Program_choose, [.cell 6 3 true, .tmp 7], 85, false, true, [(.agg [(.lst 2 (.agg [.any, (.lst 4 .any)]))]), (.agg [.any, .any, (.lst 1 (.lst 1 .any))]), .any], (.agg [(.agg [.any, .any, (.lst 1 (.lst 1 .any))]), .any]), none⟩

/-- The checked code of impl Program  run. -/
def lb_impl_Program_run_0 : AC := (.post (.seq (.reg [⟨(some 27), .op (.bin .lss (.tmp 26) (.tmp 25)), none⟩])
  (.seq (.cond (.tmp 27) (.ghost (.kill [27]) .skip)
  (.ghost (.kill [2, 24, 25, 26, 27]) (.exit 1)))
  (.seq (.block 2 (.seq (.post (.reg [⟨(some 28), .op (.iaddrS (.tmp 24) (.tmp 26) 1), none⟩,
    ⟨(some 29), .op (.load 1 false (.tmp 28)), none⟩,
    ⟨(some 10), .op (.mv (.tmp 29)), none⟩]) (.kill [28, 29]))
  (.seq (.seq (.post (.reg [⟨(some 30), .op (.load 1 true (.tmp 2)), none⟩,
    ⟨(some 31), .op (.load 3 true (.tmp 8)), none⟩,
    ⟨(some 32), .call (.func i_impl_Program_choices) [(.tmp 30), (.tmp 31)] true, none⟩,
    ⟨(some 33), .op (.mv (.tmp 10)), none⟩,
    ⟨(some 34), .call (.func i_slices_Contains_L_int64) [(.tmp 32), (.tmp 33)], none⟩,
    ⟨(some 35), .op (.un .not (.tmp 34)), none⟩]) (.kill [30, 31, 32, 33, 34]))
  (.cond (.tmp 35) (.ghost (.kill [2, 7, 8, 10, 24, 25, 26, 35]) (.seq (.post (.reg [⟨(some 36), .op (.build [Value.int .i64 0, Value.int .i64 0, Value.slice none 0 0] []), none⟩,
    ⟨(some 4), .op (.mv (.const (Value.string ⟨#[]⟩))), none⟩,
    ⟨none, .op (.store 3 (.tmp 5) (.tmp 36)), none⟩,
    ⟨(some 6), .op (.mv (.const (Value.int .i64 4))), none⟩]) (.kill [36]))
  .ret))
  (.ghost (.kill [35]) .skip)))
  (.seq (.post (.reg [⟨(some 38), .op (.load 1 true (.tmp 2)), none⟩,
    ⟨(some 39), .op (.load 3 true (.tmp 8)), none⟩,
    ⟨(some 40), .op (.mv (.tmp 10)), none⟩,
    ⟨(some 41), .call (.func i_impl_Program_choose) [(.tmp 38), (.tmp 39), (.tmp 40)], none⟩,
    ⟨(some 37), .op (.mv (.tmp 41)), none⟩,
    ⟨(some 42), .op (.ext (.tmp 37) 0), none⟩,
    ⟨(some 43), .op (.ext (.tmp 37) 1), none⟩,
    ⟨(some 11), .op (.alloc (Value.agg #[Value.int .i64 0, Value.int .i64 0, Value.slice none 0 0])), none⟩,
    ⟨none, .op (.store 3 (.tmp 11) (.tmp 42)), none⟩,
    ⟨(some 12), .op (.mv (.tmp 43)), none⟩]) (.kill [10, 37, 38, 39, 40, 41, 42, 43]))
  (.post (.draw [⟨0, ⟨(some 44), .op (.mv (.tmp 7)), none⟩, []⟩,
    ⟨1, ⟨(some 45), .op (.mv (.tmp 12)), none⟩, []⟩,
    ⟨2, ⟨(some 46), .op (.bin .add (.tmp 44) (.tmp 45)), none⟩, []⟩,
    ⟨3, ⟨(some 47), .op (.load 3 true (.tmp 11)), none⟩, []⟩,
    ⟨4, ⟨(some 7), .op (.mv (.tmp 46)), none⟩, []⟩,
    ⟨5, ⟨none, .op (.store 3 (.tmp 8) (.tmp 47)), none⟩, []⟩]
    [0, 0, 3, 0, 7, 31]) (.kill [11, 12, 44, 45, 46, 47]))))))
  (.post (.reg [⟨(some 48), .op (.bin .add (.tmp 26) (.const (Value.int .i64 1))), none⟩,
    ⟨(some 26), .op (.mv (.tmp 48)), none⟩]) (.kill [48]))))) .nv)
def lo_impl_Program_run_0 : AC := (.loop lb_impl_Program_run_0)
def ac_impl_Program_run : AC := (.seq (.post (.reg [⟨(some 2), .op (.box true (.tmp 0)), none⟩,
    ⟨(some 4), .op (.mv (.const (Value.string ⟨#[]⟩))), none⟩,
    ⟨(some 5), .op (.alloc (Value.agg #[Value.int .i64 0, Value.int .i64 0, Value.slice none 0 0])), none⟩,
    ⟨(some 6), .op (.mv (.const (Value.int .i64 0))), none⟩]) (.kill [0, 4, 6]))
  (.seq (.block 0 (.seq (.post (.reg [⟨(some 14), .op (.load 1 true (.tmp 2)), none⟩,
    ⟨(some 15), .call (.func i_impl_ValidProgram) [(.tmp 14)], none⟩,
    ⟨(some 16), .op (.un .not (.tmp 15)), none⟩,
    ⟨(some 13), .op (.mv (.tmp 16)), none⟩]) (.kill [14, 15, 16]))
  (.cond (.tmp 13) (.ghost (.kill [1, 2, 13]) (.seq (.post (.reg [⟨(some 17), .op (.build [Value.int .i64 0, Value.int .i64 0, Value.slice none 0 0] []), none⟩,
    ⟨(some 4), .op (.mv (.const (Value.string ⟨#[]⟩))), none⟩,
    ⟨none, .op (.store 3 (.tmp 5) (.tmp 17)), none⟩,
    ⟨(some 6), .op (.mv (.const (Value.int .i64 1))), none⟩]) (.kill [17]))
  .ret))
  (.ghost (.kill [13]) (.seq (.post (.reg [⟨(some 19), .op (.mv (.tmp 1)), none⟩,
    ⟨(some 20), .op (.len false (.tmp 19)), none⟩,
    ⟨(some 21), .op (.bin .gtr (.tmp 20) (.const (Value.int .i64 200))), none⟩,
    ⟨(some 18), .op (.mv (.tmp 21)), none⟩]) (.kill [19, 20, 21]))
  (.cond (.tmp 18) (.ghost (.kill [1, 2, 18]) (.seq (.post (.reg [⟨(some 22), .op (.build [Value.int .i64 0, Value.int .i64 0, Value.slice none 0 0] []), none⟩,
    ⟨(some 4), .op (.mv (.const (Value.string ⟨#[]⟩))), none⟩,
    ⟨none, .op (.store 3 (.tmp 5) (.tmp 22)), none⟩,
    ⟨(some 6), .op (.mv (.const (Value.int .i64 2))), none⟩]) (.kill [22]))
  .ret))
  (.ghost (.kill [18]) .skip)))))))
  (.seq (.post (.reg [⟨(some 23), .op (.build [Value.int .i64 0, Value.int .i64 0, Value.slice none 0 0] []), none⟩,
    ⟨(some 8), .op (.alloc (Value.agg #[Value.int .i64 0, Value.int .i64 0, Value.slice none 0 0])), none⟩,
    ⟨(some 7), .op (.mv (.const (Value.string ⟨#[]⟩))), none⟩,
    ⟨none, .op (.store 3 (.tmp 8) (.tmp 23)), none⟩]) (.kill [23]))
  (.seq (.seq (.post (.reg [⟨(some 24), .op (.mv (.tmp 1)), none⟩,
    ⟨(some 25), .op (.len false (.tmp 24)), none⟩,
    ⟨(some 26), .op (.mv (.const (Value.int .i64 0))), none⟩]) (.kill [1]))
  (.post (.block 1 (.ghost .nv lo_impl_Program_run_0)) .nv))
  (.ghost (.kill [2, 24, 25, 26]) (.seq (.post (.draw [⟨0, ⟨(some 49), .op (.mv (.tmp 7)), none⟩, []⟩,
    ⟨1, ⟨(some 50), .op (.load 3 true (.tmp 8)), none⟩, []⟩,
    ⟨2, ⟨(some 4), .op (.mv (.tmp 49)), none⟩, []⟩,
    ⟨3, ⟨none, .op (.store 3 (.tmp 5) (.tmp 50)), none⟩, []⟩,
    ⟨4, ⟨(some 6), .op (.mv (.const (Value.int .i64 0))), none⟩, []⟩]
    [0, 0, 1, 7, 15]) (.kill [7, 8, 49, 50]))
  .ret))))))
theorem cf_impl_Program_run : chkFn Try.prog i_impl_Program_run ac_impl_Program_run [.tmp 4, .cell 5 3 true, .tmp 6] 51 = true := by decide +kernel
def fa_impl_Program_run : FnA := ⟨ac_impl_Program_run, [.tmp 4, .cell 5 3 true, .tmp 6], 51, false, true, [(.agg [(.lst 2 (.agg [.any, (.lst 4 .any)]))]), (.lst 1 .any)], (.agg [.any, (.agg [.any, .any, (.lst 1 (.lst 1 .any))]), .any]), none⟩

/-- The checked code of impl ChoicesAt. -/
def ac_impl_ChoicesAt : AC := (.seq (.post (.reg [⟨(some 2), .op (.box true (.tmp 0)), none⟩,
    ⟨(some 4), .op (.mv (.const (Value.slice none 0 0))), none⟩,
    ⟨(some 5), .op (.mv (.const (Value.int .i64 0))), none⟩]) (.kill [0, 4, 5]))
  (.seq (.post (.reg [⟨(some 10), .op (.load 1 true (.tmp 2)), none⟩,
    ⟨(some 11), .op (.mv (.tmp 1)), none⟩,
    ⟨(some 12), .call (.func i_impl_Program_run) [(.tmp 10), (.tmp 11)], none⟩,
    ⟨(some 9), .op (.mv (.tmp 12)), none⟩,
    ⟨(some 13), .op (.ext (.tmp 9) 0), none⟩,
    ⟨(some 14), .op (.ext (.tmp 9) 1), none⟩,
    ⟨(some 15), .op (.ext (.tmp 9) 2), none⟩,
    ⟨(some 7), .op (.alloc (Value.agg #[Value.int .i64 0, Value.int .i64 0, Value.slice none 0 0])), none⟩,
    ⟨(some 6), .op (.mv (.tmp 13)), none⟩,
    ⟨none, .op (.store 3 (.tmp 7) (.tmp 14)), none⟩,
    ⟨(some 8), .op (.mv (.tmp 15)), none⟩]) (.kill [1, 6, 9, 10, 11, 12, 13, 14, 15]))
  (.seq (.seq (.post (.reg [⟨(some 16), .op (.mv (.tmp 8)), none⟩,
    ⟨(some 17), .op (.bin .neq (.tmp 16) (.const (Value.int .i64 0))), none⟩]) (.kill [16]))
  (.cond (.tmp 17) (.ghost (.kill [2, 7, 17]) (.seq (.post (.reg [⟨(some 18), .op (.mv (.tmp 8)), none⟩,
    ⟨(some 4), .op (.mv (.const (Value.slice none 0 0))), none⟩,
    ⟨(some 5), .op (.mv (.tmp 18)), none⟩]) (.kill [8, 18]))
  .ret))
  (.ghost (.kill [8, 17]) .skip)))
  (.seq (.post (.reg [⟨(some 19), .op (.load 1 true (.tmp 2)), none⟩,
    ⟨(some 20), .op (.load 3 true (.tmp 7)), none⟩,
    ⟨(some 21), .call (.func i_impl_Program_choices) [(.tmp 19), (.tmp 20)], none⟩,
    ⟨(some 4), .op (.mv (.tmp 21)), none⟩,
    ⟨(some 5), .op (.mv (.const (Value.int .i64 0))), none⟩]) (.kill [2, 7, 19, 20, 21]))
  (.ghost .nv .ret)))))
theorem cf_impl_ChoicesAt : chkFn Try.prog i_impl_ChoicesAt ac_impl_ChoicesAt [.tmp 4, .tmp 5] 22 = true := by decide +kernel
def fa_impl_ChoicesAt : FnA := ⟨ac_impl_ChoicesAt, [.tmp 4, .tmp 5], 22, false, false, [(.agg [(.lst 2 (.agg [.any, (.lst 4 .any)]))]), (.lst 1 .any)], .any, none⟩

/-- The checked code of laws eqLink. -/
def ac_laws_eqLink : AC := (.seq (.post (.reg [⟨(some 2), .op (.box true (.tmp 0)), none⟩,
    ⟨(some 3), .op (.box true (.tmp 1)), none⟩,
    ⟨(some 4), .op (.mv (.const (Value.bool false))), none⟩]) (.kill [0, 1, 4]))
  (.seq (.seq (.post (.reg [⟨(some 5), .op (.faddr (.tmp 2) 0), none⟩,
    ⟨(some 6), .op (.load 1 false (.tmp 5)), none⟩,
    ⟨(some 7), .op (.faddr (.tmp 3) 0), none⟩,
    ⟨(some 8), .op (.load 1 false (.tmp 7)), none⟩,
    ⟨(some 9), .op (.bin .neq (.tmp 6) (.tmp 8)), none⟩]) (.kill [5, 6, 7, 8]))
  (.cond (.tmp 9) (.ghost (.kill [2, 3, 9]) (.seq (.reg [⟨(some 4), .op (.mv (.const (Value.bool false))), none⟩])
  .ret))
  (.ghost (.kill [9]) .skip)))
  (.seq (.seq (.post (.reg [⟨(some 10), .op (.faddr (.tmp 2) 1), none⟩,
    ⟨(some 11), .op (.load 1 false (.tmp 10)), none⟩,
    ⟨(some 12), .op (.faddr (.tmp 3) 1), none⟩,
    ⟨(some 13), .op (.load 1 false (.tmp 12)), none⟩,
    ⟨(some 14), .op (.bin .neq (.tmp 11) (.tmp 13)), none⟩]) (.kill [10, 11, 12, 13]))
  (.cond (.tmp 14) (.ghost (.kill [2, 3, 14]) (.seq (.reg [⟨(some 4), .op (.mv (.const (Value.bool false))), none⟩])
  .ret))
  (.ghost (.kill [14]) .skip)))
  (.seq (.seq (.post (.reg [⟨(some 15), .op (.faddr (.tmp 2) 2), none⟩,
    ⟨(some 16), .op (.load 1 false (.tmp 15)), none⟩,
    ⟨(some 17), .op (.faddr (.tmp 3) 2), none⟩,
    ⟨(some 18), .op (.load 1 false (.tmp 17)), none⟩,
    ⟨(some 19), .op (.bin .neq (.tmp 16) (.tmp 18)), none⟩]) (.kill [15, 16, 17, 18]))
  (.cond (.tmp 19) (.ghost (.kill [2, 3, 19]) (.seq (.reg [⟨(some 4), .op (.mv (.const (Value.bool false))), none⟩])
  .ret))
  (.ghost (.kill [19]) .skip)))
  (.seq (.seq (.post (.reg [⟨(some 20), .op (.faddr (.tmp 2) 3), none⟩,
    ⟨(some 21), .op (.load 1 false (.tmp 20)), none⟩,
    ⟨(some 22), .op (.faddr (.tmp 3) 3), none⟩,
    ⟨(some 23), .op (.load 1 false (.tmp 22)), none⟩,
    ⟨(some 24), .op (.bin .neq (.tmp 21) (.tmp 23)), none⟩]) (.kill [2, 3, 20, 21, 22, 23]))
  (.cond (.tmp 24) (.ghost (.kill [24]) (.seq (.reg [⟨(some 4), .op (.mv (.const (Value.bool false))), none⟩])
  .ret))
  (.ghost (.kill [24]) .skip)))
  (.seq (.reg [⟨(some 4), .op (.mv (.const (Value.bool true))), none⟩])
  .ret))))))
theorem cf_laws_eqLink : chkFn Try.prog i_laws_eqLink ac_laws_eqLink [.tmp 4] 25 = true := by decide +kernel
def fa_laws_eqLink : FnA := ⟨ac_laws_eqLink, [.tmp 4], 25, false, true, [], .any, none⟩

/-- The checked code of laws eqLinkS. -/
def lb_laws_eqLinkS_0 : AC := (.seq (.seq (.post (.reg [⟨(some 11), .op (.mv (.tmp 5)), none⟩,
    ⟨(some 12), .op (.mv (.tmp 0)), none⟩,
    ⟨(some 13), .op (.len false (.tmp 12)), none⟩,
    ⟨(some 14), .op (.bin .lss (.tmp 11) (.tmp 13)), none⟩]) (.kill [11, 12, 13]))
  (.cond (.tmp 14) (.ghost (.kill [14]) .skip)
  (.ghost (.kill [0, 1, 5, 14]) (.exit 0))))
  (.seq (.block 1 (.seq (.post (.draw [⟨0, ⟨(some 17), .op (.mv (.tmp 0)), none⟩, []⟩,
    ⟨1, ⟨(some 18), .op (.mv (.tmp 5)), none⟩, []⟩,
    ⟨2, ⟨(some 19), .op (.iaddrS (.tmp 17) (.tmp 18) 4), none⟩, []⟩,
    ⟨3, ⟨(some 20), .op (.load 4 true (.tmp 19)), none⟩, []⟩,
    ⟨4, ⟨(some 21), .op (.mv (.tmp 1)), none⟩, []⟩,
    ⟨5, ⟨(some 22), .op (.mv (.tmp 5)), none⟩, []⟩,
    ⟨6, ⟨(some 23), .op (.iaddrS (.tmp 21) (.tmp 22) 4), none⟩, []⟩,
    ⟨7, ⟨(some 24), .op (.load 4 true (.tmp 23)), none⟩, []⟩,
    ⟨8, ⟨(some 25), .call (.func i_laws_eqLink) [(.tmp 20), (.tmp 24)], none⟩, []⟩,
    ⟨9, ⟨(some 26), .op (.un .not (.tmp 25)), none⟩, []⟩]
    [0, 0, 3, 7, 0, 0, 48, 112, 255, 511]) (.kill [17, 18, 19, 20, 21, 22, 23, 24, 25]))
  (.cond (.tmp 26) (.ghost (.kill [0, 1, 5, 26]) (.seq (.reg [⟨(some 4), .op (.mv (.const (Value.bool false))), none⟩])
  .ret))
  (.ghost (.kill [26]) .skip))))
  (.post (.reg [⟨(some 15), .op (.mv (.tmp 5)), none⟩,
    ⟨(some 16), .op (.bin .add (.tmp 15) (.const (Value.int .i64 1))), none⟩,
    ⟨(some 5), .op (.mv (.tmp 16)), none⟩]) (.kill [15, 16]))))
def lo_laws_eqLinkS_0 : AC := (.loop lb_laws_eqLinkS_0)
def ac_laws_eqLinkS : AC := (.seq (.post (.reg [⟨(some 4), .op (.mv (.const (Value.bool false))), none⟩]) (.kill [4]))
  (.seq (.seq (.post (.reg [⟨(some 6), .op (.mv (.tmp 0)), none⟩,
    ⟨(some 7), .op (.len false (.tmp 6)), none⟩,
    ⟨(some 8), .op (.mv (.tmp 1)), none⟩,
    ⟨(some 9), .op (.len false (.tmp 8)), none⟩,
    ⟨(some 10), .op (.bin .neq (.tmp 7) (.tmp 9)), none⟩]) (.kill [6, 7, 8, 9]))
  (.cond (.tmp 10) (.ghost (.kill [0, 1, 10]) (.seq (.reg [⟨(some 4), .op (.mv (.const (Value.bool false))), none⟩])
  .ret))
  (.ghost (.kill [10]) .skip)))
  (.seq (.seq (.reg [⟨(some 5), .op (.mv (.const (Value.int .i64 0))), none⟩])
  (.block 0 lo_laws_eqLinkS_0))
  (.ghost (.kill [0, 1, 5]) (.seq (.reg [⟨(some 4), .op (.mv (.const (Value.bool true))), none⟩])
  .ret)))))
theorem cf_laws_eqLinkS : chkFn Try.prog i_laws_eqLinkS ac_laws_eqLinkS [.tmp 4] 27 = true := by decide +kernel
def fa_laws_eqLinkS : FnA := ⟨ac_laws_eqLinkS, [.tmp 4], 27, false, true, [], .any, none⟩

/-- The checked code of laws eqModule. -/
def ac_laws_eqModule : AC := (.seq (.post (.reg [⟨(some 2), .op (.box true (.tmp 0)), none⟩,
    ⟨(some 3), .op (.box true (.tmp 1)), none⟩,
    ⟨(some 4), .op (.mv (.const (Value.bool false))), none⟩]) (.kill [0, 1, 4]))
  (.seq (.seq (.post (.reg [⟨(some 5), .op (.faddr (.tmp 2) 0), none⟩,
    ⟨(some 6), .op (.load 1 false (.tmp 5)), none⟩,
    ⟨(some 7), .op (.faddr (.tmp 3) 0), none⟩,
    ⟨(some 8), .op (.load 1 false (.tmp 7)), none⟩,
    ⟨(some 9), .op (.bin .neq (.tmp 6) (.tmp 8)), none⟩]) (.kill [5, 6, 7, 8]))
  (.cond (.tmp 9) (.ghost (.kill [2, 3, 9]) (.seq (.reg [⟨(some 4), .op (.mv (.const (Value.bool false))), none⟩])
  .ret))
  (.ghost (.kill [9]) .skip)))
  (.seq (.seq (.post (.reg [⟨(some 10), .op (.faddr (.tmp 2) 1), none⟩,
    ⟨(some 11), .op (.load 1 false (.tmp 10)), none⟩,
    ⟨(some 12), .op (.faddr (.tmp 3) 1), none⟩,
    ⟨(some 13), .op (.load 1 false (.tmp 12)), none⟩,
    ⟨(some 14), .call (.func i_laws_eqLinkS) [(.tmp 11), (.tmp 13)], none⟩,
    ⟨(some 15), .op (.un .not (.tmp 14)), none⟩]) (.kill [2, 3, 10, 11, 12, 13, 14]))
  (.cond (.tmp 15) (.ghost (.kill [15]) (.seq (.reg [⟨(some 4), .op (.mv (.const (Value.bool false))), none⟩])
  .ret))
  (.ghost (.kill [15]) .skip)))
  (.seq (.reg [⟨(some 4), .op (.mv (.const (Value.bool true))), none⟩])
  .ret))))
theorem cf_laws_eqModule : chkFn Try.prog i_laws_eqModule ac_laws_eqModule [.tmp 4] 16 = true := by decide +kernel
def fa_laws_eqModule : FnA := ⟨ac_laws_eqModule, [.tmp 4], 16, false, true, [], .any, none⟩

/-- The checked code of laws eqModuleS. -/
def lb_laws_eqModuleS_0 : AC := (.seq (.seq (.post (.reg [⟨(some 11), .op (.mv (.tmp 5)), none⟩,
    ⟨(some 12), .op (.mv (.tmp 0)), none⟩,
    ⟨(some 13), .op (.len false (.tmp 12)), none⟩,
    ⟨(some 14), .op (.bin .lss (.tmp 11) (.tmp 13)), none⟩]) (.kill [11, 12, 13]))
  (.cond (.tmp 14) (.ghost (.kill [14]) .skip)
  (.ghost (.kill [0, 1, 5, 14]) (.exit 0))))
  (.seq (.block 1 (.seq (.post (.draw [⟨0, ⟨(some 17), .op (.mv (.tmp 0)), none⟩, []⟩,
    ⟨1, ⟨(some 18), .op (.mv (.tmp 5)), none⟩, []⟩,
    ⟨2, ⟨(some 19), .op (.iaddrS (.tmp 17) (.tmp 18) 2), none⟩, []⟩,
    ⟨3, ⟨(some 20), .op (.load 2 true (.tmp 19)), none⟩, []⟩,
    ⟨4, ⟨(some 21), .op (.mv (.tmp 1)), none⟩, []⟩,
    ⟨5, ⟨(some 22), .op (.mv (.tmp 5)), none⟩, []⟩,
    ⟨6, ⟨(some 23), .op (.iaddrS (.tmp 21) (.tmp 22) 2), none⟩, []⟩,
    ⟨7, ⟨(some 24), .op (.load 2 true (.tmp 23)), none⟩, []⟩,
    ⟨8, ⟨(some 25), .call (.func i_laws_eqModule) [(.tmp 20), (.tmp 24)], none⟩, []⟩,
    ⟨9, ⟨(some 26), .op (.un .not (.tmp 25)), none⟩, []⟩]
    [0, 0, 3, 7, 0, 0, 48, 112, 255, 511]) (.kill [17, 18, 19, 20, 21, 22, 23, 24, 25]))
  (.cond (.tmp 26) (.ghost (.kill [0, 1, 5, 26]) (.seq (.reg [⟨(some 4), .op (.mv (.const (Value.bool false))), none⟩])
  .ret))
  (.ghost (.kill [26]) .skip))))
  (.post (.reg [⟨(some 15), .op (.mv (.tmp 5)), none⟩,
    ⟨(some 16), .op (.bin .add (.tmp 15) (.const (Value.int .i64 1))), none⟩,
    ⟨(some 5), .op (.mv (.tmp 16)), none⟩]) (.kill [15, 16]))))
def lo_laws_eqModuleS_0 : AC := (.loop lb_laws_eqModuleS_0)
def ac_laws_eqModuleS : AC := (.seq (.post (.reg [⟨(some 4), .op (.mv (.const (Value.bool false))), none⟩]) (.kill [4]))
  (.seq (.seq (.post (.reg [⟨(some 6), .op (.mv (.tmp 0)), none⟩,
    ⟨(some 7), .op (.len false (.tmp 6)), none⟩,
    ⟨(some 8), .op (.mv (.tmp 1)), none⟩,
    ⟨(some 9), .op (.len false (.tmp 8)), none⟩,
    ⟨(some 10), .op (.bin .neq (.tmp 7) (.tmp 9)), none⟩]) (.kill [6, 7, 8, 9]))
  (.cond (.tmp 10) (.ghost (.kill [0, 1, 10]) (.seq (.reg [⟨(some 4), .op (.mv (.const (Value.bool false))), none⟩])
  .ret))
  (.ghost (.kill [10]) .skip)))
  (.seq (.seq (.reg [⟨(some 5), .op (.mv (.const (Value.int .i64 0))), none⟩])
  (.block 0 lo_laws_eqModuleS_0))
  (.ghost (.kill [0, 1, 5]) (.seq (.reg [⟨(some 4), .op (.mv (.const (Value.bool true))), none⟩])
  .ret)))))
theorem cf_laws_eqModuleS : chkFn Try.prog i_laws_eqModuleS ac_laws_eqModuleS [.tmp 4] 27 = true := by decide +kernel
def fa_laws_eqModuleS : FnA := ⟨ac_laws_eqModuleS, [.tmp 4], 27, false, true, [], .any, none⟩

/-- The checked code of laws eqProgram. -/
def ac_laws_eqProgram : AC := (.seq (.post (.reg [⟨(some 2), .op (.box true (.tmp 0)), none⟩,
    ⟨(some 3), .op (.box true (.tmp 1)), none⟩,
    ⟨(some 4), .op (.mv (.const (Value.bool false))), none⟩]) (.kill [0, 1, 4]))
  (.seq (.seq (.post (.reg [⟨(some 5), .op (.faddr (.tmp 2) 0), none⟩,
    ⟨(some 6), .op (.load 1 false (.tmp 5)), none⟩,
    ⟨(some 7), .op (.faddr (.tmp 3) 0), none⟩,
    ⟨(some 8), .op (.load 1 false (.tmp 7)), none⟩,
    ⟨(some 9), .call (.func i_laws_eqModuleS) [(.tmp 6), (.tmp 8)], none⟩,
    ⟨(some 10), .op (.un .not (.tmp 9)), none⟩]) (.kill [2, 3, 5, 6, 7, 8, 9]))
  (.cond (.tmp 10) (.ghost (.kill [10]) (.seq (.reg [⟨(some 4), .op (.mv (.const (Value.bool false))), none⟩])
  .ret))
  (.ghost (.kill [10]) .skip)))
  (.seq (.reg [⟨(some 4), .op (.mv (.const (Value.bool true))), none⟩])
  .ret)))
theorem cf_laws_eqProgram : chkFn Try.prog i_laws_eqProgram ac_laws_eqProgram [.tmp 4] 11 = true := by decide +kernel
def fa_laws_eqProgram : FnA := ⟨ac_laws_eqProgram, [.tmp 4], 11, false, true, [(.agg [(.lst 2 (.agg [.any, (.lst 4 .any)]))]), (.agg [(.lst 2 (.agg [.any, (.lst 4 .any)]))])], .any, none⟩

/-- The checked code of laws markText. -/
def lb_laws_markText_0 : AC := (.post (.seq (.seq (.post (.reg [⟨(some 6), .op (.mv (.tmp 0)), none⟩,
    ⟨(some 7), .op (.bin .gtr (.tmp 6) (.const (Value.int .i64 0))), none⟩]) (.kill [6]))
  (.cond (.tmp 7) (.ghost (.kill [7]) .skip)
  (.ghost (.kill [0, 7]) (.exit 0))))
  (.block 1 (.seq (.post (.reg [⟨(some 8), .op (.mv (.tmp 0)), none⟩,
    ⟨(some 9), .op (.bin .rem (.tmp 8) (.const (Value.int .i64 10))), none⟩,
    ⟨(some 10), .op (.bin .add (.const (Value.int .i64 48)) (.tmp 9)), none⟩,
    ⟨(some 11), .op (.conv .u8 (.tmp 10)), none⟩,
    ⟨(some 12), .op (.lits false 1 1 (Value.int .u8 0) [(0, (.tmp 11))]), none⟩,
    ⟨(some 13), .op (.b2s (.tmp 12)), none⟩,
    ⟨(some 14), .op (.mv (.tmp 3)), none⟩,
    ⟨(some 15), .op (.bin .add (.tmp 13) (.tmp 14)), none⟩,
    ⟨(some 3), .op (.mv (.tmp 15)), none⟩]) (.kill [8, 9, 10, 11, 12, 13, 14, 15]))
  (.post (.reg [⟨(some 16), .op (.mv (.tmp 0)), none⟩,
    ⟨(some 17), .op (.bin .quo (.tmp 16) (.const (Value.int .i64 10))), none⟩,
    ⟨(some 0), .op (.mv (.tmp 17)), none⟩]) (.kill [16, 17]))))) .nv)
def lo_laws_markText_0 : AC := (.loop lb_laws_markText_0)
def ac_laws_markText : AC := (.seq (.post (.reg [⟨(some 2), .op (.mv (.const (Value.string ⟨#[]⟩))), none⟩]) (.kill [2]))
  (.seq (.seq (.post (.reg [⟨(some 4), .op (.mv (.tmp 0)), none⟩,
    ⟨(some 5), .op (.bin .leq (.tmp 4) (.const (Value.int .i64 0))), none⟩]) (.kill [4]))
  (.cond (.tmp 5) (.ghost (.kill [0, 5]) (.seq (.reg [⟨(some 2), .op (.mv (.const (Value.string ⟨#[109, 48]⟩))), none⟩])
  .ret))
  (.ghost (.kill [5]) .skip)))
  (.seq (.reg [⟨(some 3), .op (.mv (.const (Value.string ⟨#[]⟩))), none⟩])
  (.seq (.post (.block 0 (.ghost .nv lo_laws_markText_0)) .nv)
  (.ghost (.kill [0]) (.seq (.post (.reg [⟨(some 18), .op (.mv (.tmp 3)), none⟩,
    ⟨(some 19), .op (.bin .add (.const (Value.string ⟨#[109]⟩)) (.tmp 18)), none⟩,
    ⟨(some 2), .op (.mv (.tmp 19)), none⟩]) (.kill [3, 18, 19]))
  .ret))))))
theorem cf_laws_markText : chkFn Try.prog i_laws_markText ac_laws_markText [.tmp 2] 20 = true := by decide +kernel
def fa_laws_markText : FnA := ⟨ac_laws_markText, [.tmp 2], 20, false, true, [], .any, none⟩

/-- The checked code of laws markLinkS. -/
def lb_laws_markLinkS_0 : AC := (.seq (.seq (.post (.reg [⟨(some 6), .op (.mv (.tmp 5)), none⟩,
    ⟨(some 7), .op (.mv (.tmp 0)), none⟩,
    ⟨(some 8), .op (.len false (.tmp 7)), none⟩,
    ⟨(some 9), .op (.bin .lss (.tmp 6) (.tmp 8)), none⟩]) (.kill [6, 7, 8]))
  (.cond (.tmp 9) (.ghost (.kill [9]) .skip)
  (.ghost (.kill [0, 5, 9]) (.exit 0))))
  (.seq (.block 1 (.seq (.post (.reg [⟨(some 12), .op (.mv (.tmp 0)), none⟩,
    ⟨(some 13), .op (.mv (.tmp 5)), none⟩,
    ⟨(some 14), .op (.mv (.tmp 1)), none⟩,
    ⟨(some 15), .op (.iaddrS (.tmp 12) (.tmp 13) 4), none⟩,
    ⟨(some 16), .op (.faddr (.tmp 15) 0), none⟩,
    ⟨none, .op (.store 1 (.tmp 16) (.tmp 14)), none⟩]) (.kill [12, 13, 14, 15, 16]))
  (.seq (.post (.reg [⟨(some 17), .op (.mv (.tmp 1)), none⟩,
    ⟨(some 18), .op (.bin .add (.tmp 17) (.const (Value.int .i64 1))), none⟩,
    ⟨(some 1), .op (.mv (.tmp 18)), none⟩]) (.kill [17, 18]))
  (.seq (.post (.reg [⟨(some 19), .op (.mv (.tmp 0)), none⟩,
    ⟨(some 20), .op (.mv (.tmp 5)), none⟩,
    ⟨(some 21), .op (.mv (.tmp 1)), none⟩,
    ⟨(some 22), .op (.iaddrS (.tmp 19) (.tmp 20) 4), none⟩,
    ⟨(some 23), .op (.faddr (.tmp 22) 1), none⟩,
    ⟨none, .op (.store 1 (.tmp 23) (.tmp 21)), none⟩]) (.kill [19, 20, 21, 22, 23]))
  (.seq (.post (.reg [⟨(some 24), .op (.mv (.tmp 1)), none⟩,
    ⟨(some 25), .op (.bin .add (.tmp 24) (.const (Value.int .i64 1))), none⟩,
    ⟨(some 1), .op (.mv (.tmp 25)), none⟩]) (.kill [24, 25]))
  (.seq (.post (.reg [⟨(some 26), .op (.mv (.tmp 0)), none⟩,
    ⟨(some 27), .op (.mv (.tmp 5)), none⟩,
    ⟨(some 28), .op (.mv (.tmp 1)), none⟩,
    ⟨(some 29), .call (.func i_laws_markText) [(.tmp 28)], none⟩,
    ⟨(some 30), .op (.iaddrS (.tmp 26) (.tmp 27) 4), none⟩,
    ⟨(some 31), .op (.faddr (.tmp 30) 2), none⟩,
    ⟨none, .op (.store 1 (.tmp 31) (.tmp 29)), none⟩]) (.kill [26, 27, 28, 29, 30, 31]))
  (.seq (.post (.reg [⟨(some 32), .op (.mv (.tmp 1)), none⟩,
    ⟨(some 33), .op (.bin .add (.tmp 32) (.const (Value.int .i64 1))), none⟩,
    ⟨(some 1), .op (.mv (.tmp 33)), none⟩]) (.kill [32, 33]))
  (.seq (.post (.reg [⟨(some 34), .op (.mv (.tmp 0)), none⟩,
    ⟨(some 35), .op (.mv (.tmp 5)), none⟩,
    ⟨(some 36), .op (.mv (.tmp 1)), none⟩,
    ⟨(some 37), .op (.iaddrS (.tmp 34) (.tmp 35) 4), none⟩,
    ⟨(some 38), .op (.faddr (.tmp 37) 3), none⟩,
    ⟨none, .op (.store 1 (.tmp 38) (.tmp 36)), none⟩]) (.kill [34, 35, 36, 37, 38]))
  (.post (.reg [⟨(some 39), .op (.mv (.tmp 1)), none⟩,
    ⟨(some 40), .op (.bin .add (.tmp 39) (.const (Value.int .i64 1))), none⟩,
    ⟨(some 1), .op (.mv (.tmp 40)), none⟩]) (.kill [39, 40]))))))))))
  (.post (.reg [⟨(some 10), .op (.mv (.tmp 5)), none⟩,
    ⟨(some 11), .op (.bin .add (.tmp 10) (.const (Value.int .i64 1))), none⟩,
    ⟨(some 5), .op (.mv (.tmp 11)), none⟩]) (.kill [10, 11]))))
def lo_laws_markLinkS_0 : AC := (.loop lb_laws_markLinkS_0)
def ac_laws_markLinkS : AC := (.seq (.post (.reg [⟨(some 4), .op (.mv (.const (Value.int .i64 0))), none⟩]) (.kill [4]))
  (.seq (.seq (.reg [⟨(some 5), .op (.mv (.const (Value.int .i64 0))), none⟩])
  (.block 0 lo_laws_markLinkS_0))
  (.ghost (.kill [0, 5]) (.seq (.post (.reg [⟨(some 41), .op (.mv (.tmp 1)), none⟩,
    ⟨(some 4), .op (.mv (.tmp 41)), none⟩]) (.kill [1, 41]))
  .ret))))
theorem cf_laws_markLinkS : chkFn Try.prog i_laws_markLinkS ac_laws_markLinkS [.tmp 4] 42 = true := by decide +kernel
def fa_laws_markLinkS : FnA := ⟨ac_laws_markLinkS, [.tmp 4], 42, true, false, [], .any, none⟩

/-- The checked code of laws markModuleS. -/
def lb_laws_markModuleS_0 : AC := (.seq (.seq (.post (.reg [⟨(some 6), .op (.mv (.tmp 5)), none⟩,
    ⟨(some 7), .op (.mv (.tmp 0)), none⟩,
    ⟨(some 8), .op (.len false (.tmp 7)), none⟩,
    ⟨(some 9), .op (.bin .lss (.tmp 6) (.tmp 8)), none⟩]) (.kill [6, 7, 8]))
  (.cond (.tmp 9) (.ghost (.kill [9]) .skip)
  (.ghost (.kill [0, 5, 9]) (.exit 0))))
  (.seq (.block 1 (.seq (.post (.reg [⟨(some 12), .op (.mv (.tmp 0)), none⟩,
    ⟨(some 13), .op (.mv (.tmp 5)), none⟩,
    ⟨(some 14), .op (.mv (.tmp 1)), none⟩,
    ⟨(some 15), .op (.iaddrS (.tmp 12) (.tmp 13) 2), none⟩,
    ⟨(some 16), .op (.faddr (.tmp 15) 0), none⟩,
    ⟨none, .op (.store 1 (.tmp 16) (.tmp 14)), none⟩]) (.kill [12, 13, 14, 15, 16]))
  (.seq (.post (.reg [⟨(some 17), .op (.mv (.tmp 1)), none⟩,
    ⟨(some 18), .op (.bin .add (.tmp 17) (.const (Value.int .i64 1))), none⟩,
    ⟨(some 1), .op (.mv (.tmp 18)), none⟩]) (.kill [17, 18]))
  (.post (.reg [⟨(some 19), .op (.mv (.tmp 0)), none⟩,
    ⟨(some 20), .op (.mv (.tmp 5)), none⟩,
    ⟨(some 21), .op (.iaddrS (.tmp 19) (.tmp 20) 2), none⟩,
    ⟨(some 22), .op (.faddr (.tmp 21) 1), none⟩,
    ⟨(some 23), .op (.load 1 false (.tmp 22)), none⟩,
    ⟨(some 24), .op (.mv (.tmp 1)), none⟩,
    ⟨(some 25), .call (.func i_laws_markLinkS) [(.tmp 23), (.tmp 24)], none⟩,
    ⟨(some 1), .op (.mv (.tmp 25)), none⟩]) (.kill [19, 20, 21, 22, 23, 24, 25])))))
  (.post (.reg [⟨(some 10), .op (.mv (.tmp 5)), none⟩,
    ⟨(some 11), .op (.bin .add (.tmp 10) (.const (Value.int .i64 1))), none⟩,
    ⟨(some 5), .op (.mv (.tmp 11)), none⟩]) (.kill [10, 11]))))
def lo_laws_markModuleS_0 : AC := (.loop lb_laws_markModuleS_0)
def ac_laws_markModuleS : AC := (.seq (.post (.reg [⟨(some 4), .op (.mv (.const (Value.int .i64 0))), none⟩]) (.kill [4]))
  (.seq (.seq (.reg [⟨(some 5), .op (.mv (.const (Value.int .i64 0))), none⟩])
  (.block 0 lo_laws_markModuleS_0))
  (.ghost (.kill [0, 5]) (.seq (.post (.reg [⟨(some 26), .op (.mv (.tmp 1)), none⟩,
    ⟨(some 4), .op (.mv (.tmp 26)), none⟩]) (.kill [1, 26]))
  .ret))))
theorem cf_laws_markModuleS : chkFn Try.prog i_laws_markModuleS ac_laws_markModuleS [.tmp 4] 27 = true := by decide +kernel
def fa_laws_markModuleS : FnA := ⟨ac_laws_markModuleS, [.tmp 4], 27, true, false, [], .any, none⟩

/-- The checked code of laws markProgram. -/
def ac_laws_markProgram : AC := (.seq (.post (.reg [⟨(some 2), .op (.box false (.tmp 0)), none⟩,
    ⟨(some 4), .op (.mv (.const (Value.int .i64 0))), none⟩]) (.kill [0, 4]))
  (.seq (.post (.reg [⟨(some 5), .op (.faddr (.tmp 2) 0), none⟩,
    ⟨(some 6), .op (.load 1 false (.tmp 5)), none⟩,
    ⟨(some 7), .op (.mv (.tmp 1)), none⟩,
    ⟨(some 8), .call (.func i_laws_markModuleS) [(.tmp 6), (.tmp 7)], none⟩,
    ⟨(some 1), .op (.mv (.tmp 8)), none⟩]) (.kill [2, 5, 6, 7, 8]))
  (.seq (.post (.reg [⟨(some 9), .op (.mv (.tmp 1)), none⟩,
    ⟨(some 4), .op (.mv (.tmp 9)), none⟩]) (.kill [1, 9]))
  .ret)))
theorem cf_laws_markProgram : chkFn Try.prog i_laws_markProgram ac_laws_markProgram [.tmp 4] 10 = true := by decide +kernel
def fa_laws_markProgram : FnA := ⟨ac_laws_markProgram, [.tmp 4], 10, true, false, [], .any, none⟩

/-- The checked code of laws FnExactChoicesAt. -/
def ac_laws_FnExactChoicesAt : AC := (.seq (.post (.reg [⟨(some 2), .op (.box true (.tmp 0)), none⟩,
    ⟨(some 4), .op (.mv (.const (Value.bool false))), none⟩]) (.kill [0, 4]))
  (.seq (.seq (.post (.reg [⟨(some 17), .op (.mv (.tmp 1)), none⟩,
    ⟨(some 18), .op (.len false (.tmp 17)), none⟩,
    ⟨(some 19), .op (.bin .gtr (.tmp 18) (.const (Value.int .i64 1048576))), none⟩]) (.kill [17, 18]))
  (.cond (.tmp 19) (.ghost (.kill [1, 2, 19]) (.seq (.reg [⟨(some 4), .op (.mv (.const (Value.bool true))), none⟩])
  .ret))
  (.ghost (.kill [19]) .skip)))
  (.seq (.reg [⟨(some 5), .op (.mv (.const (Value.int .i64 1048576))), none⟩])
  (.seq (.post (.reg [⟨(some 20), .op (.load 1 true (.tmp 2)), none⟩,
    ⟨(some 21), .op (.mv (.tmp 5)), none⟩,
    ⟨(some 22), .call (.func i_laws_szProgram) [(.tmp 20), (.tmp 21)], none⟩,
    ⟨(some 5), .op (.mv (.tmp 22)), none⟩]) (.kill [20, 21, 22]))
  (.seq (.seq (.post (.reg [⟨(some 23), .op (.mv (.tmp 5)), none⟩,
    ⟨(some 24), .op (.bin .lss (.tmp 23) (.const (Value.int .i64 0))), none⟩]) (.kill [5, 23]))
  (.cond (.tmp 24) (.ghost (.kill [1, 2, 24]) (.seq (.reg [⟨(some 4), .op (.mv (.const (Value.bool true))), none⟩])
  .ret))
  (.ghost (.kill [24]) .skip)))
  (.seq (.post (.reg [⟨(some 26), .op (.load 1 true (.tmp 2)), none⟩,
    ⟨(some 27), .call (.func i_laws_toProgram) [(.tmp 26)] true, none⟩,
    ⟨(some 28), .op (.mv (.tmp 1)), none⟩,
    ⟨(some 29), .call (.func i_laws_toInt64S) [(.tmp 28)] true, none⟩,
    ⟨(some 30), .call (.func i_spec_ChoicesAt) [(.tmp 27), (.tmp 29)], none⟩,
    ⟨(some 25), .op (.mv (.tmp 30)), none⟩,
    ⟨(some 31), .op (.ext (.tmp 25) 0), none⟩,
    ⟨(some 32), .op (.ext (.tmp 25) 1), none⟩,
    ⟨(some 6), .op (.mv (.tmp 31)), none⟩,
    ⟨(some 7), .op (.mv (.tmp 32)), none⟩]) (.kill [25, 26, 27, 28, 29, 30, 31, 32]))
  (.seq (.post (.reg [⟨(some 33), .op (.load 1 true (.tmp 2)), none⟩,
    ⟨(some 34), .call (.func i_laws_toProgram) [(.tmp 33)], none⟩,
    ⟨(some 8), .op (.alloc (Value.agg #[Value.slice none 0 0])), none⟩,
    ⟨none, .op (.store 1 (.tmp 8) (.tmp 34)), none⟩]) (.kill [33, 34]))
  (.seq (.post (.reg [⟨(some 35), .op (.mv (.tmp 1)), none⟩,
    ⟨(some 36), .call (.func i_laws_toInt64S) [(.tmp 35)], none⟩,
    ⟨(some 9), .op (.mv (.tmp 36)), none⟩]) (.kill [35, 36]))
  (.seq (.post (.reg [⟨(some 38), .op (.load 1 true (.tmp 8)), none⟩,
    ⟨(some 39), .op (.mv (.tmp 9)), none⟩,
    ⟨(some 40), .call (.func i_impl_ChoicesAt) [(.tmp 38), (.tmp 39)], none⟩,
    ⟨(some 37), .op (.mv (.tmp 40)), none⟩,
    ⟨(some 41), .op (.ext (.tmp 37) 0), none⟩,
    ⟨(some 42), .op (.ext (.tmp 37) 1), none⟩,
    ⟨(some 10), .op (.mv (.tmp 41)), none⟩,
    ⟨(some 11), .op (.mv (.tmp 42)), none⟩]) (.kill [37, 38, 39, 40, 41, 42]))
  (.seq (.seq (.post (.reg [⟨(some 43), .op (.mv (.tmp 10)), none⟩,
    ⟨(some 44), .op (.mv (.tmp 6)), none⟩,
    ⟨(some 45), .call (.func i_laws_eqInt64S) [(.tmp 43), (.tmp 44)], none⟩,
    ⟨(some 46), .op (.un .not (.tmp 45)), none⟩,
    ⟨(some 47), .op (.mv (.tmp 46)), none⟩,
    ⟨(some 48), .op (.mv (.tmp 11)), some (47, false)⟩,
    ⟨(some 49), .op (.mv (.tmp 7)), some (47, false)⟩,
    ⟨(some 50), .op (.bin .neq (.tmp 48) (.tmp 49)), some (47, false)⟩,
    ⟨(some 51), .op (.pick (.tmp 47) (.const (Value.bool true)) (.tmp 50)), none⟩]) (.kill [43, 44, 45, 46, 47, 48, 49, 50]))
  (.cond (.tmp 51) (.ghost (.kill [1, 2, 6, 7, 8, 9, 10, 11, 51]) (.seq (.reg [⟨(some 4), .op (.mv (.const (Value.bool false))), none⟩])
  .ret))
  (.ghost (.kill [51]) .skip)))
  (.seq (.seq (.post (.draw [⟨0, ⟨(some 52), .op (.load 1 true (.tmp 8)), none⟩, []⟩,
    ⟨1, ⟨(some 53), .op (.load 1 true (.tmp 2)), none⟩, []⟩,
    ⟨2, ⟨(some 54), .call (.func i_laws_toProgram) [(.tmp 53)], none⟩, [0]⟩,
    ⟨3, ⟨(some 55), .call (.func i_laws_eqProgram) [(.tmp 52), (.tmp 54)], none⟩, []⟩,
    ⟨4, ⟨(some 56), .op (.un .not (.tmp 55)), none⟩, []⟩]
    [0, 0, 2, 7, 15]) (.kill [52, 53, 54, 55]))
  (.cond (.tmp 56) (.ghost (.kill [1, 2, 6, 7, 8, 9, 10, 11, 56]) (.seq (.reg [⟨(some 4), .op (.mv (.const (Value.bool false))), none⟩])
  .ret))
  (.ghost (.kill [56]) .skip)))
  (.seq (.seq (.post (.reg [⟨(some 57), .op (.mv (.tmp 9)), none⟩,
    ⟨(some 58), .op (.mv (.tmp 1)), none⟩,
    ⟨(some 59), .call (.func i_laws_toInt64S) [(.tmp 58)], none⟩,
    ⟨(some 60), .call (.func i_laws_eqInt64S) [(.tmp 57), (.tmp 59)], none⟩,
    ⟨(some 61), .op (.un .not (.tmp 60)), none⟩]) (.kill [57, 58, 59, 60]))
  (.cond (.tmp 61) (.ghost (.kill [1, 2, 6, 7, 8, 9, 10, 11, 61]) (.seq (.reg [⟨(some 4), .op (.mv (.const (Value.bool false))), none⟩])
  .ret))
  (.ghost (.kill [61]) .skip)))
  (.seq (.reg [⟨(some 12), .op (.mv (.const (Value.int .i64 1))), none⟩])
  (.seq (.post (.reg [⟨(some 62), .op (.load 1 true (.tmp 8)), none⟩,
    ⟨(some 63), .op (.mv (.tmp 12)), none⟩,
    ⟨(some 64), .call (.func i_laws_markProgram) [(.tmp 62), (.tmp 63)], none⟩,
    ⟨(some 12), .op (.mv (.tmp 64)), none⟩]) (.kill [8, 62, 63, 64]))
  (.seq (.post (.reg [⟨(some 65), .op (.mv (.tmp 9)), none⟩,
    ⟨(some 66), .op (.mv (.tmp 12)), none⟩,
    ⟨(some 67), .call (.func i_laws_markInt64S) [(.tmp 65), (.tmp 66)], none⟩,
    ⟨(some 12), .op (.mv (.tmp 67)), none⟩]) (.kill [9, 65, 66, 67]))
  (.seq (.seq (.post (.reg [⟨(some 68), .op (.mv (.tmp 12)), none⟩,
    ⟨(some 69), .op (.bin .lss (.tmp 68) (.const (Value.int .i64 0))), none⟩,
    ⟨(some 70), .op (.mv (.tmp 69)), none⟩,
    ⟨(some 71), .op (.mv (.tmp 10)), some (70, false)⟩,
    ⟨(some 72), .op (.mv (.tmp 6)), some (70, false)⟩,
    ⟨(some 73), .call (.func i_laws_eqInt64S) [(.tmp 71), (.tmp 72)], some (70, false)⟩,
    ⟨(some 74), .op (.un .not (.tmp 73)), some (70, false)⟩,
    ⟨(some 75), .op (.pick (.tmp 70) (.const (Value.bool true)) (.tmp 74)), none⟩,
    ⟨(some 76), .op (.mv (.tmp 75)), none⟩,
    ⟨(some 77), .op (.mv (.tmp 11)), some (76, false)⟩,
    ⟨(some 78), .op (.mv (.tmp 7)), some (76, false)⟩,
    ⟨(some 79), .op (.bin .neq (.tmp 77) (.tmp 78)), some (76, false)⟩,
    ⟨(some 80), .op (.pick (.tmp 76) (.const (Value.bool true)) (.tmp 79)), none⟩]) (.kill [11, 12, 68, 69, 70, 71, 72, 73, 74, 75, 76, 77, 78, 79]))
  (.cond (.tmp 80) (.ghost (.kill [1, 2, 6, 7, 10, 80]) (.seq (.reg [⟨(some 4), .op (.mv (.const (Value.bool false))), none⟩])
  .ret))
  (.ghost (.kill [80]) .skip)))
  (.seq (.reg [⟨(some 13), .op (.mv (.const (Value.int .i64 1))), none⟩])
  (.seq (.post (.reg [⟨(some 81), .op (.mv (.tmp 10)), none⟩,
    ⟨(some 82), .op (.mv (.tmp 13)), none⟩,
    ⟨(some 83), .call (.func i_laws_markInt64S) [(.tmp 81), (.tmp 82)], none⟩,
    ⟨(some 13), .op (.mv (.tmp 83)), none⟩]) (.kill [81, 82, 83]))
  (.seq (.reg [⟨(some 14), .op (.mv (.const (Value.int .i64 1))), none⟩])
  (.seq (.post (.reg [⟨(some 84), .op (.mv (.tmp 10)), none⟩,
    ⟨(some 85), .op (.mv (.tmp 14)), none⟩,
    ⟨(some 86), .call (.func i_laws_heldInt64S) [(.tmp 84), (.tmp 85)], none⟩,
    ⟨(some 14), .op (.mv (.tmp 86)), none⟩]) (.kill [84, 85, 86]))
  (.seq (.seq (.post (.reg [⟨(some 87), .op (.mv (.tmp 14)), none⟩,
    ⟨(some 88), .op (.bin .lss (.tmp 87) (.const (Value.int .i64 0))), none⟩]) (.kill [87]))
  (.cond (.tmp 88) (.ghost (.kill [1, 2, 6, 7, 10, 13, 14, 88]) (.seq (.reg [⟨(some 4), .op (.mv (.const (Value.bool false))), none⟩])
  .ret))
  (.ghost (.kill [88]) .skip)))
  (.seq (.seq (.post (.reg [⟨(some 89), .op (.mv (.tmp 14)), none⟩,
    ⟨(some 90), .op (.mv (.tmp 13)), none⟩,
    ⟨(some 91), .op (.bin .neq (.tmp 89) (.tmp 90)), none⟩]) (.kill [14, 89, 90]))
  (.cond (.tmp 91) (.ghost (.kill [1, 2, 6, 7, 10, 13, 91]) (.seq (.reg [⟨(some 4), .op (.mv (.const (Value.bool false))), none⟩])
  .ret))
  (.ghost (.kill [91]) .skip)))
  (.seq (.post (.reg [⟨(some 93), .op (.load 1 true (.tmp 2)), none⟩,
    ⟨(some 94), .call (.func i_laws_toProgram) [(.tmp 93)], none⟩,
    ⟨(some 95), .op (.mv (.tmp 1)), none⟩,
    ⟨(some 96), .call (.func i_laws_toInt64S) [(.tmp 95)], none⟩,
    ⟨(some 97), .call (.func i_impl_ChoicesAt) [(.tmp 94), (.tmp 96)], none⟩,
    ⟨(some 92), .op (.mv (.tmp 97)), none⟩,
    ⟨(some 98), .op (.ext (.tmp 92) 0), none⟩,
    ⟨(some 99), .op (.ext (.tmp 92) 1), none⟩,
    ⟨(some 15), .op (.mv (.tmp 98)), none⟩,
    ⟨(some 16), .op (.mv (.tmp 99)), none⟩]) (.kill [1, 2, 92, 93, 94, 95, 96, 97, 98, 99]))
  (.seq (.seq (.post (.reg [⟨(some 100), .op (.mv (.tmp 15)), none⟩,
    ⟨(some 101), .op (.mv (.tmp 6)), none⟩,
    ⟨(some 102), .call (.func i_laws_eqInt64S) [(.tmp 100), (.tmp 101)], none⟩,
    ⟨(some 103), .op (.un .not (.tmp 102)), none⟩,
    ⟨(some 104), .op (.mv (.tmp 103)), none⟩,
    ⟨(some 105), .op (.mv (.tmp 16)), some (104, false)⟩,
    ⟨(some 106), .op (.mv (.tmp 7)), some (104, false)⟩,
    ⟨(some 107), .op (.bin .neq (.tmp 105) (.tmp 106)), some (104, false)⟩,
    ⟨(some 108), .op (.pick (.tmp 104) (.const (Value.bool true)) (.tmp 107)), none⟩]) (.kill [6, 7, 15, 16, 100, 101, 102, 103, 104, 105, 106, 107]))
  (.cond (.tmp 108) (.ghost (.kill [10, 13, 108]) (.seq (.reg [⟨(some 4), .op (.mv (.const (Value.bool false))), none⟩])
  .ret))
  (.ghost (.kill [108]) .skip)))
  (.seq (.reg [⟨(some 14), .op (.mv (.const (Value.int .i64 1))), none⟩])
  (.seq (.post (.reg [⟨(some 109), .op (.mv (.tmp 10)), none⟩,
    ⟨(some 110), .op (.mv (.tmp 14)), none⟩,
    ⟨(some 111), .call (.func i_laws_heldInt64S) [(.tmp 109), (.tmp 110)], none⟩,
    ⟨(some 14), .op (.mv (.tmp 111)), none⟩]) (.kill [10, 109, 110, 111]))
  (.seq (.seq (.post (.reg [⟨(some 112), .op (.mv (.tmp 14)), none⟩,
    ⟨(some 113), .op (.bin .lss (.tmp 112) (.const (Value.int .i64 0))), none⟩]) (.kill [112]))
  (.cond (.tmp 113) (.ghost (.kill [13, 14, 113]) (.seq (.reg [⟨(some 4), .op (.mv (.const (Value.bool false))), none⟩])
  .ret))
  (.ghost (.kill [113]) .skip)))
  (.seq (.seq (.post (.reg [⟨(some 114), .op (.mv (.tmp 14)), none⟩,
    ⟨(some 115), .op (.mv (.tmp 13)), none⟩,
    ⟨(some 116), .op (.bin .neq (.tmp 114) (.tmp 115)), none⟩]) (.kill [13, 14, 114, 115]))
  (.cond (.tmp 116) (.ghost (.kill [116]) (.seq (.reg [⟨(some 4), .op (.mv (.const (Value.bool false))), none⟩])
  .ret))
  (.ghost (.kill [116]) .skip)))
  (.seq (.reg [⟨(some 4), .op (.mv (.const (Value.bool true))), none⟩])
  .ret)))))))))))))))))))))))))))))
theorem cf_laws_FnExactChoicesAt : chkFn Try.prog i_laws_FnExactChoicesAt ac_laws_FnExactChoicesAt [.tmp 4] 117 = true := by decide +kernel
def fa_laws_FnExactChoicesAt : FnA := ⟨ac_laws_FnExactChoicesAt, [.tmp 4], 117, false, true, [], .any, none⟩

/-- The checked code of spec l00Own. -/
def ac_spec_l00Own : AC := (.seq (.post (.reg [⟨(some 2), .op (.mv (.const (Value.slice none 0 0))), none⟩]) (.kill [2]))
  (.seq (.post (.post (.reg [⟨(some 3), .op (.lits true 1 0 (Value.int .i64 0) []), none⟩,
    ⟨(some 4), .op (.mv (.tmp 0)), none⟩,
    ⟨(some 5), .op (.append (.tmp 3) (.tmp 4) 1 8), none⟩,
    ⟨(some 2), .op (.mv (.tmp 5)), none⟩]) (.kill [0, 3, 4, 5])) .nv)
  .ret))
theorem cf_spec_l00Own : chkFn Try.prog i_spec_l00Own ac_spec_l00Own [.tmp 2] 6 = true := by decide +kernel
def fa_spec_l00Own : FnA := ⟨ac_spec_l00Own, [.tmp 2], 6, false, false, [], .any, none⟩

/-- The checked code of spec RunProgram. -/
def lb_spec_RunProgram_0 : AC := (.post (.seq (.seq (.post (.reg [⟨(some 38), .op (.mv (.tmp 11)), none⟩,
    ⟨(some 39), .op (.mv (.tmp 8)), none⟩,
    ⟨(some 40), .op (.nilc (.tmp 39)), none⟩,
    ⟨(some 41), .op (.faddr (.tmp 40) 2), none⟩,
    ⟨(some 42), .op (.load 1 false (.tmp 41)), none⟩,
    ⟨(some 43), .op (.len false (.tmp 42)), none⟩,
    ⟨(some 44), .op (.bin .lss (.tmp 38) (.tmp 43)), none⟩]) (.kill [38, 39, 40, 41, 42, 43]))
  (.cond (.tmp 44) (.ghost (.kill [44]) .skip)
  (.ghost (.kill [8, 11, 44]) (.exit 0))))
  (.seq (.block 1 (.post (.post (.draw [⟨0, ⟨(some 47), .op (.faddr (.tmp 10) 2), none⟩, []⟩,
    ⟨1, ⟨(some 48), .op (.load 1 false (.tmp 47)), none⟩, []⟩,
    ⟨2, ⟨(some 49), .op (.mv (.tmp 8)), none⟩, []⟩,
    ⟨3, ⟨(some 50), .op (.nilc (.tmp 49)), none⟩, []⟩,
    ⟨4, ⟨(some 51), .op (.faddr (.tmp 50) 2), none⟩, []⟩,
    ⟨5, ⟨(some 52), .op (.load 1 false (.tmp 51)), none⟩, []⟩,
    ⟨6, ⟨(some 53), .op (.mv (.tmp 11)), none⟩, []⟩,
    ⟨7, ⟨(some 54), .op (.iaddrS (.tmp 52) (.tmp 53) 1), none⟩, []⟩,
    ⟨8, ⟨(some 55), .op (.load 1 false (.tmp 54)), none⟩, []⟩,
    ⟨9, ⟨(some 56), .call (.func i_spec_l00Own) [(.tmp 55)] true, none⟩, [1]⟩,
    ⟨10, ⟨(some 57), .op (.lits true 1 1 (Value.slice none 0 0) [(0, (.tmp 56))]), none⟩, []⟩,
    ⟨11, ⟨(some 58), .op (.append (.tmp 48) (.tmp 57) 1 24), none⟩, []⟩,
    ⟨12, ⟨(some 59), .op (.faddr (.tmp 10) 2), none⟩, []⟩,
    ⟨13, ⟨none, .op (.store 1 (.tmp 59) (.tmp 58)), none⟩, []⟩]
    [0, 1, 0, 4, 12, 28, 0, 124, 252, 508, 1020, 2047, 4095, 8191]) (.kill [47, 48, 49, 50, 51, 52, 53, 54, 55, 56, 57, 58, 59])) .nv))
  (.post (.reg [⟨(some 45), .op (.mv (.tmp 11)), none⟩,
    ⟨(some 46), .op (.bin .add (.tmp 45) (.const (Value.int .i64 1))), none⟩,
    ⟨(some 11), .op (.mv (.tmp 46)), none⟩]) (.kill [45, 46])))) .nv)
def lo_spec_RunProgram_0 : AC := (.loop lb_spec_RunProgram_0)
def ac_spec_RunProgram : AC := (.seq (.post (.reg [⟨(some 2), .op (.box true (.tmp 0)), none⟩,
    ⟨(some 4), .op (.mv (.const (Value.string ⟨#[]⟩))), none⟩,
    ⟨(some 5), .op (.alloc (Value.agg #[Value.int .i64 0, Value.int .i64 0, Value.slice none 0 0])), none⟩,
    ⟨(some 6), .op (.mv (.const (Value.int .i64 0))), none⟩]) (.kill [0, 4, 6]))
  (.seq (.post (.reg [⟨(some 13), .op (.mv (.tmp 1)), none⟩,
    ⟨(some 14), .call (.func i_spec_l07Run) [(.tmp 2), (.tmp 13)], none⟩,
    ⟨(some 12), .op (.mv (.tmp 14)), none⟩,
    ⟨(some 15), .op (.ext (.tmp 12) 0), none⟩,
    ⟨(some 16), .op (.ext (.tmp 12) 1), none⟩,
    ⟨(some 17), .op (.ext (.tmp 12) 2), none⟩,
    ⟨(some 7), .op (.mv (.tmp 15)), none⟩,
    ⟨(some 8), .op (.mv (.tmp 16)), none⟩,
    ⟨(some 9), .op (.mv (.tmp 17)), none⟩]) (.kill [1, 2, 12, 13, 14, 15, 16, 17]))
  (.seq (.seq (.post (.reg [⟨(some 18), .op (.mv (.tmp 9)), none⟩,
    ⟨(some 19), .op (.bin .eql (.tmp 18) (.const (Value.int .i64 0))), none⟩,
    ⟨(some 20), .op (.mv (.tmp 19)), none⟩,
    ⟨(some 21), .op (.mv (.tmp 7)), some (20, true)⟩,
    ⟨(some 22), .op (.len true (.tmp 21)), some (20, true)⟩,
    ⟨(some 23), .op (.bin .gtr (.tmp 22) (.const (Value.int .i64 60))), some (20, true)⟩,
    ⟨(some 24), .op (.pick (.tmp 20) (.tmp 23) (.const (Value.bool false))), none⟩]) (.kill [18, 19, 20, 21, 22, 23]))
  (.cond (.tmp 24) (.ghost (.kill [9, 24]) (.reg [⟨(some 9), .op (.mv (.const (Value.int .i64 3))), none⟩]))
  (.ghost (.kill [24]) .skip)))
  (.seq (.seq (.post (.reg [⟨(some 25), .op (.mv (.tmp 9)), none⟩,
    ⟨(some 26), .op (.bin .neq (.tmp 25) (.const (Value.int .i64 0))), none⟩]) (.kill [25]))
  (.cond (.tmp 26) (.ghost (.kill [7, 8, 26]) (.seq (.post (.reg [⟨(some 27), .op (.build [Value.int .i64 0, Value.int .i64 0, Value.slice none 0 0] []), none⟩,
    ⟨(some 28), .op (.mv (.tmp 9)), none⟩,
    ⟨(some 4), .op (.mv (.const (Value.string ⟨#[]⟩))), none⟩,
    ⟨none, .op (.store 3 (.tmp 5) (.tmp 27)), none⟩,
    ⟨(some 6), .op (.mv (.tmp 28)), none⟩]) (.kill [9, 27, 28]))
  .ret))
  (.ghost (.kill [9, 26]) .skip)))
  (.seq (.post (.draw [⟨0, ⟨(some 29), .op (.mv (.tmp 8)), none⟩, []⟩,
    ⟨1, ⟨(some 30), .op (.nilc (.tmp 29)), none⟩, []⟩,
    ⟨2, ⟨(some 31), .op (.faddr (.tmp 30) 0), none⟩, []⟩,
    ⟨3, ⟨(some 32), .op (.load 1 false (.tmp 31)), none⟩, []⟩,
    ⟨4, ⟨(some 33), .op (.mv (.tmp 8)), none⟩, []⟩,
    ⟨5, ⟨(some 34), .op (.nilc (.tmp 33)), none⟩, []⟩,
    ⟨6, ⟨(some 35), .op (.faddr (.tmp 34) 1), none⟩, []⟩,
    ⟨7, ⟨(some 36), .op (.load 1 false (.tmp 35)), none⟩, []⟩,
    ⟨8, ⟨(some 37), .op (.build [Value.int .i64 0, Value.int .i64 0, Value.slice none 0 0] [(0, 1, (.tmp 32)), (1, 1, (.tmp 36))]), none⟩, []⟩,
    ⟨9, ⟨(some 10), .op (.alloc (Value.agg #[Value.int .i64 0, Value.int .i64 0, Value.slice none 0 0])), none⟩, [3, 7]⟩,
    ⟨10, ⟨none, .op (.store 3 (.tmp 10) (.tmp 37)), none⟩, []⟩]
    [0, 1, 3, 7, 0, 16, 48, 112, 255, 0, 1023]) (.kill [29, 30, 31, 32, 33, 34, 35, 36, 37]))
  (.seq (.seq (.reg [⟨(some 11), .op (.mv (.const (Value.int .i64 0))), none⟩])
  (.post (.block 0 (.ghost (.ow 10 (some 2) 1) (.ghost .nv lo_spec_RunProgram_0))) .nv))
  (.ghost (.kill [8, 11]) (.seq (.post (.draw [⟨0, ⟨(some 60), .op (.mv (.tmp 7)), none⟩, []⟩,
    ⟨1, ⟨(some 61), .op (.load 3 true (.tmp 10)), none⟩, []⟩,
    ⟨2, ⟨(some 4), .op (.mv (.tmp 60)), none⟩, []⟩,
    ⟨3, ⟨none, .op (.store 3 (.tmp 5) (.tmp 61)), none⟩, []⟩,
    ⟨4, ⟨(some 6), .op (.mv (.const (Value.int .i64 0))), none⟩, []⟩]
    [0, 0, 1, 7, 15]) (.kill [7, 10, 60, 61]))
  .ret))))))))
theorem cf_spec_RunProgram : chkFn Try.prog i_spec_RunProgram ac_spec_RunProgram [.tmp 4, .cell 5 3 true, .tmp 6] 62 = true := by decide +kernel
def fa_spec_RunProgram : FnA := ⟨ac_spec_RunProgram, [.tmp 4, .cell 5 3 true, .tmp 6], 62, false, true, [(.agg [(.lst 2 (.agg [.any, (.lst 4 .any)]))]), (.lst 1 .any)], .any, none⟩

/-- The checked code of slices Clone   int64 int64 . -/
def ac_slices_Clone_L_int64 : AC := (.seq (.post (.reg [⟨(some 2), .op (.mv (.const (Value.slice none 0 0))), none⟩]) (.kill [2]))
  (.seq (.seq (.post (.reg [⟨(some 3), .op (.mv (.tmp 0)), none⟩,
    ⟨(some 4), .op (.eqnil false false .s (.tmp 3)), none⟩]) (.kill [3]))
  (.cond (.tmp 4) (.ghost (.kill [0, 4]) (.seq (.reg [⟨(some 2), .op (.mv (.const (Value.slice none 0 0))), none⟩])
  .ret))
  (.ghost (.kill [4]) .skip)))
  (.seq (.post (.post (.reg [⟨(some 5), .op (.lits true 1 0 (Value.int .i64 0) []), none⟩,
    ⟨(some 6), .op (.mv (.tmp 0)), none⟩,
    ⟨(some 7), .op (.append (.tmp 5) (.tmp 6) 1 8), none⟩,
    ⟨(some 2), .op (.mv (.tmp 7)), none⟩]) (.kill [0, 5, 6, 7])) .nv)
  .ret)))
theorem cf_slices_Clone_L_int64 : chkFn Try.prog i_slices_Clone_L_int64 ac_slices_Clone_L_int64 [.tmp 2] 8 = true := by decide +kernel
def fa_slices_Clone_L_int64 : FnA := ⟨ac_slices_Clone_L_int64, [.tmp 2], 8, false, false, [], .any, none⟩

/-- The checked code of impl RunProgram. -/
def lb_impl_RunProgram_0 : AC := (.seq (.reg [⟨(some 36), .op (.bin .lss (.tmp 35) (.tmp 34)), none⟩])
  (.seq (.cond (.tmp 36) (.ghost (.kill [36]) .skip)
  (.ghost (.kill [33, 34, 35, 36]) (.exit 0)))
  (.seq (.block 1 (.seq (.post (.reg [⟨(some 37), .op (.iaddrS (.tmp 33) (.tmp 35) 1), none⟩,
    ⟨(some 38), .op (.load 1 false (.tmp 37)), none⟩,
    ⟨(some 12), .op (.mv (.tmp 38)), none⟩]) (.kill [37, 38]))
  (.post (.reg [⟨(some 39), .op (.mv (.tmp 10)), none⟩,
    ⟨(some 40), .op (.mv (.tmp 12)), none⟩,
    ⟨(some 41), .call (.func i_slices_Clone_L_int64) [(.tmp 40)], none⟩,
    ⟨(some 42), .op (.lits true 1 1 (Value.slice none 0 0) [(0, (.tmp 41))]), none⟩,
    ⟨(some 43), .op (.append (.tmp 39) (.tmp 42) 1 24), none⟩,
    ⟨(some 10), .op (.mv (.tmp 43)), none⟩]) (.kill [12, 39, 40, 41, 42, 43]))))
  (.post (.reg [⟨(some 44), .op (.bin .add (.tmp 35) (.const (Value.int .i64 1))), none⟩,
    ⟨(some 35), .op (.mv (.tmp 44)), none⟩]) (.kill [44])))))
def lo_impl_RunProgram_0 : AC := (.loop lb_impl_RunProgram_0)
def ac_impl_RunProgram : AC := (.seq (.post (.reg [⟨(some 2), .op (.box true (.tmp 0)), none⟩,
    ⟨(some 4), .op (.mv (.const (Value.string ⟨#[]⟩))), none⟩,
    ⟨(some 5), .op (.alloc (Value.agg #[Value.int .i64 0, Value.int .i64 0, Value.slice none 0 0])), none⟩,
    ⟨(some 6), .op (.mv (.const (Value.int .i64 0))), none⟩]) (.kill [0, 4, 6]))
  (.seq (.post (.reg [⟨(some 14), .op (.load 1 true (.tmp 2)), none⟩,
    ⟨(some 15), .op (.mv (.tmp 1)), none⟩,
    ⟨(some 16), .call (.func i_impl_Program_run) [(.tmp 14), (.tmp 15)], none⟩,
    ⟨(some 13), .op (.mv (.tmp 16)), none⟩,
    ⟨(some 17), .op (.ext (.tmp 13) 0), none⟩,
    ⟨(some 18), .op (.ext (.tmp 13) 1), none⟩,
    ⟨(some 19), .op (.ext (.tmp 13) 2), none⟩,
    ⟨(some 8), .op (.alloc (Value.agg #[Value.int .i64 0, Value.int .i64 0, Value.slice none 0 0])), none⟩,
    ⟨(some 7), .op (.mv (.tmp 17)), none⟩,
    ⟨none, .op (.store 3 (.tmp 8) (.tmp 18)), none⟩,
    ⟨(some 9), .op (.mv (.tmp 19)), none⟩]) (.kill [1, 2, 13, 14, 15, 16, 17, 18, 19]))
  (.seq (.seq (.post (.reg [⟨(some 20), .op (.mv (.tmp 9)), none⟩,
    ⟨(some 21), .op (.bin .eql (.tmp 20) (.const (Value.int .i64 0))), none⟩,
    ⟨(some 22), .op (.mv (.tmp 21)), none⟩,
    ⟨(some 23), .op (.mv (.tmp 7)), some (22, true)⟩,
    ⟨(some 24), .op (.len true (.tmp 23)), some (22, true)⟩,
    ⟨(some 25), .op (.bin .gtr (.tmp 24) (.const (Value.int .i64 60))), some (22, true)⟩,
    ⟨(some 26), .op (.pick (.tmp 22) (.tmp 25) (.const (Value.bool false))), none⟩]) (.kill [20, 21, 22, 23, 24, 25]))
  (.cond (.tmp 26) (.ghost (.kill [9, 26]) (.reg [⟨(some 9), .op (.mv (.const (Value.int .i64 3))), none⟩]))
  (.ghost (.kill [26]) .skip)))
  (.seq (.seq (.post (.reg [⟨(some 27), .op (.mv (.tmp 9)), none⟩,
    ⟨(some 28), .op (.bin .neq (.tmp 27) (.const (Value.int .i64 0))), none⟩]) (.kill [27]))
  (.cond (.tmp 28) (.ghost (.kill [7, 8, 28]) (.seq (.post (.reg [⟨(some 29), .op (.build [Value.int .i64 0, Value.int .i64 0, Value.slice none 0 0] []), none⟩,
    ⟨(some 30), .op (.mv (.tmp 9)), none⟩,
    ⟨(some 4), .op (.mv (.const (Value.string ⟨#[]⟩))), none⟩,
    ⟨none, .op (.store 3 (.tmp 5) (.tmp 29)), none⟩,
    ⟨(some 6), .op (.mv (.tmp 30)), none⟩]) (.kill [9, 29, 30]))
  (.ghost .nv .ret)))
  (.ghost (.kill [9, 28]) .skip)))
  (.seq (.post (.reg [⟨(some 31), .op (.lits true 1 0 (Value.slice none 0 0) []), none⟩,
    ⟨(some 10), .op (.mv (.tmp 31)), none⟩]) (.kill [31]))
  (.seq (.seq (.post (.reg [⟨(some 32), .op (.faddr (.tmp 8) 2), none⟩,
    ⟨(some 33), .op (.load 1 false (.tmp 32)), none⟩,
    ⟨(some 34), .op (.len false (.tmp 33)), none⟩,
    ⟨(some 35), .op (.mv (.const (Value.int .i64 0))), none⟩]) (.kill [32]))
  (.block 0 (.ghost (.ow 10 none 1) lo_impl_RunProgram_0)))
  (.ghost (.kill [33, 34, 35]) (.seq (.post (.reg [⟨(some 45), .op (.mv (.tmp 10)), none⟩,
    ⟨(some 46), .op (.faddr (.tmp 8) 2), none⟩,
    ⟨none, .op (.store 1 (.tmp 46) (.tmp 45)), none⟩]) (.kill [10, 45, 46]))
  (.seq (.post (.draw [⟨0, ⟨(some 47), .op (.mv (.tmp 7)), none⟩, []⟩,
    ⟨1, ⟨(some 48), .op (.load 3 true (.tmp 8)), none⟩, []⟩,
    ⟨2, ⟨(some 4), .op (.mv (.tmp 47)), none⟩, []⟩,
    ⟨3, ⟨none, .op (.store 3 (.tmp 5) (.tmp 48)), none⟩, []⟩,
    ⟨4, ⟨(some 6), .op (.mv (.const (Value.int .i64 0))), none⟩, []⟩]
    [0, 0, 1, 7, 15]) (.kill [7, 8, 47, 48]))
  .ret)))))))))
theorem cf_impl_RunProgram : chkFn Try.prog i_impl_RunProgram ac_impl_RunProgram [.tmp 4, .cell 5 3 true, .tmp 6] 49 = true := by decide +kernel
def fa_impl_RunProgram : FnA := ⟨ac_impl_RunProgram, [.tmp 4, .cell 5 3 true, .tmp 6], 49, false, false, [(.agg [(.lst 2 (.agg [.any, (.lst 4 .any)]))]), (.lst 1 .any)], .any, none⟩

/-- The checked code of laws eqInt64SS. -/
def lb_laws_eqInt64SS_0 : AC := (.seq (.seq (.post (.reg [⟨(some 11), .op (.mv (.tmp 5)), none⟩,
    ⟨(some 12), .op (.mv (.tmp 0)), none⟩,
    ⟨(some 13), .op (.len false (.tmp 12)), none⟩,
    ⟨(some 14), .op (.bin .lss (.tmp 11) (.tmp 13)), none⟩]) (.kill [11, 12, 13]))
  (.cond (.tmp 14) (.ghost (.kill [14]) .skip)
  (.ghost (.kill [0, 1, 5, 14]) (.exit 0))))
  (.seq (.block 1 (.seq (.post (.draw [⟨0, ⟨(some 17), .op (.mv (.tmp 0)), none⟩, []⟩,
    ⟨1, ⟨(some 18), .op (.mv (.tmp 5)), none⟩, []⟩,
    ⟨2, ⟨(some 19), .op (.iaddrS (.tmp 17) (.tmp 18) 1), none⟩, []⟩,
    ⟨3, ⟨(some 20), .op (.load 1 false (.tmp 19)), none⟩, []⟩,
    ⟨4, ⟨(some 21), .op (.mv (.tmp 1)), none⟩, []⟩,
    ⟨5, ⟨(some 22), .op (.mv (.tmp 5)), none⟩, []⟩,
    ⟨6, ⟨(some 23), .op (.iaddrS (.tmp 21) (.tmp 22) 1), none⟩, []⟩,
    ⟨7, ⟨(some 24), .op (.load 1 false (.tmp 23)), none⟩, []⟩,
    ⟨8, ⟨(some 25), .call (.func i_laws_eqInt64S) [(.tmp 20), (.tmp 24)], none⟩, []⟩,
    ⟨9, ⟨(some 26), .op (.un .not (.tmp 25)), none⟩, []⟩]
    [0, 0, 3, 7, 0, 0, 48, 112, 255, 511]) (.kill [17, 18, 19, 20, 21, 22, 23, 24, 25]))
  (.cond (.tmp 26) (.ghost (.kill [0, 1, 5, 26]) (.seq (.reg [⟨(some 4), .op (.mv (.const (Value.bool false))), none⟩])
  .ret))
  (.ghost (.kill [26]) .skip))))
  (.post (.reg [⟨(some 15), .op (.mv (.tmp 5)), none⟩,
    ⟨(some 16), .op (.bin .add (.tmp 15) (.const (Value.int .i64 1))), none⟩,
    ⟨(some 5), .op (.mv (.tmp 16)), none⟩]) (.kill [15, 16]))))
def lo_laws_eqInt64SS_0 : AC := (.loop lb_laws_eqInt64SS_0)
def ac_laws_eqInt64SS : AC := (.seq (.post (.reg [⟨(some 4), .op (.mv (.const (Value.bool false))), none⟩]) (.kill [4]))
  (.seq (.seq (.post (.reg [⟨(some 6), .op (.mv (.tmp 0)), none⟩,
    ⟨(some 7), .op (.len false (.tmp 6)), none⟩,
    ⟨(some 8), .op (.mv (.tmp 1)), none⟩,
    ⟨(some 9), .op (.len false (.tmp 8)), none⟩,
    ⟨(some 10), .op (.bin .neq (.tmp 7) (.tmp 9)), none⟩]) (.kill [6, 7, 8, 9]))
  (.cond (.tmp 10) (.ghost (.kill [0, 1, 10]) (.seq (.reg [⟨(some 4), .op (.mv (.const (Value.bool false))), none⟩])
  .ret))
  (.ghost (.kill [10]) .skip)))
  (.seq (.seq (.reg [⟨(some 5), .op (.mv (.const (Value.int .i64 0))), none⟩])
  (.block 0 lo_laws_eqInt64SS_0))
  (.ghost (.kill [0, 1, 5]) (.seq (.reg [⟨(some 4), .op (.mv (.const (Value.bool true))), none⟩])
  .ret)))))
theorem cf_laws_eqInt64SS : chkFn Try.prog i_laws_eqInt64SS ac_laws_eqInt64SS [.tmp 4] 27 = true := by decide +kernel
def fa_laws_eqInt64SS : FnA := ⟨ac_laws_eqInt64SS, [.tmp 4], 27, false, true, [(.lst 1 (.lst 1 .any)), (.lst 1 (.lst 1 .any))], .any, none⟩

/-- The checked code of laws eqPlace. -/
def ac_laws_eqPlace : AC := (.seq (.post (.reg [⟨(some 2), .op (.box true (.tmp 0)), none⟩,
    ⟨(some 3), .op (.box true (.tmp 1)), none⟩,
    ⟨(some 4), .op (.mv (.const (Value.bool false))), none⟩]) (.kill [0, 1, 4]))
  (.seq (.seq (.post (.reg [⟨(some 5), .op (.faddr (.tmp 2) 0), none⟩,
    ⟨(some 6), .op (.load 1 false (.tmp 5)), none⟩,
    ⟨(some 7), .op (.faddr (.tmp 3) 0), none⟩,
    ⟨(some 8), .op (.load 1 false (.tmp 7)), none⟩,
    ⟨(some 9), .op (.bin .neq (.tmp 6) (.tmp 8)), none⟩]) (.kill [5, 6, 7, 8]))
  (.cond (.tmp 9) (.ghost (.kill [2, 3, 9]) (.seq (.reg [⟨(some 4), .op (.mv (.const (Value.bool false))), none⟩])
  .ret))
  (.ghost (.kill [9]) .skip)))
  (.seq (.seq (.post (.reg [⟨(some 10), .op (.faddr (.tmp 2) 1), none⟩,
    ⟨(some 11), .op (.load 1 false (.tmp 10)), none⟩,
    ⟨(some 12), .op (.faddr (.tmp 3) 1), none⟩,
    ⟨(some 13), .op (.load 1 false (.tmp 12)), none⟩,
    ⟨(some 14), .op (.bin .neq (.tmp 11) (.tmp 13)), none⟩]) (.kill [10, 11, 12, 13]))
  (.cond (.tmp 14) (.ghost (.kill [2, 3, 14]) (.seq (.reg [⟨(some 4), .op (.mv (.const (Value.bool false))), none⟩])
  .ret))
  (.ghost (.kill [14]) .skip)))
  (.seq (.seq (.post (.reg [⟨(some 15), .op (.faddr (.tmp 2) 2), none⟩,
    ⟨(some 16), .op (.load 1 false (.tmp 15)), none⟩,
    ⟨(some 17), .op (.faddr (.tmp 3) 2), none⟩,
    ⟨(some 18), .op (.load 1 false (.tmp 17)), none⟩,
    ⟨(some 19), .call (.func i_laws_eqInt64SS) [(.tmp 16), (.tmp 18)], none⟩,
    ⟨(some 20), .op (.un .not (.tmp 19)), none⟩]) (.kill [2, 3, 15, 16, 17, 18, 19]))
  (.cond (.tmp 20) (.ghost (.kill [20]) (.seq (.reg [⟨(some 4), .op (.mv (.const (Value.bool false))), none⟩])
  .ret))
  (.ghost (.kill [20]) .skip)))
  (.seq (.reg [⟨(some 4), .op (.mv (.const (Value.bool true))), none⟩])
  .ret)))))
theorem cf_laws_eqPlace : chkFn Try.prog i_laws_eqPlace ac_laws_eqPlace [.tmp 4] 21 = true := by decide +kernel
def fa_laws_eqPlace : FnA := ⟨ac_laws_eqPlace, [.tmp 4], 21, false, true, [(.agg [.any, .any, (.lst 1 (.lst 1 .any))]), (.agg [.any, .any, (.lst 1 (.lst 1 .any))])], .any, none⟩

/-- The checked code of laws markInt64SS. -/
def lb_laws_markInt64SS_0 : AC := (.seq (.seq (.post (.reg [⟨(some 6), .op (.mv (.tmp 5)), none⟩,
    ⟨(some 7), .op (.mv (.tmp 0)), none⟩,
    ⟨(some 8), .op (.len false (.tmp 7)), none⟩,
    ⟨(some 9), .op (.bin .lss (.tmp 6) (.tmp 8)), none⟩]) (.kill [6, 7, 8]))
  (.cond (.tmp 9) (.ghost (.kill [9]) .skip)
  (.ghost (.kill [0, 5, 9]) (.exit 0))))
  (.seq (.block 1 (.post (.reg [⟨(some 12), .op (.mv (.tmp 0)), none⟩,
    ⟨(some 13), .op (.mv (.tmp 5)), none⟩,
    ⟨(some 14), .op (.iaddrS (.tmp 12) (.tmp 13) 1), none⟩,
    ⟨(some 15), .op (.load 1 false (.tmp 14)), none⟩,
    ⟨(some 16), .op (.mv (.tmp 1)), none⟩,
    ⟨(some 17), .call (.func i_laws_markInt64S) [(.tmp 15), (.tmp 16)], none⟩,
    ⟨(some 1), .op (.mv (.tmp 17)), none⟩]) (.kill [12, 13, 14, 15, 16, 17])))
  (.post (.reg [⟨(some 10), .op (.mv (.tmp 5)), none⟩,
    ⟨(some 11), .op (.bin .add (.tmp 10) (.const (Value.int .i64 1))), none⟩,
    ⟨(some 5), .op (.mv (.tmp 11)), none⟩]) (.kill [10, 11]))))
def lo_laws_markInt64SS_0 : AC := (.loop lb_laws_markInt64SS_0)
def ac_laws_markInt64SS : AC := (.seq (.post (.reg [⟨(some 4), .op (.mv (.const (Value.int .i64 0))), none⟩]) (.kill [4]))
  (.seq (.seq (.reg [⟨(some 5), .op (.mv (.const (Value.int .i64 0))), none⟩])
  (.block 0 lo_laws_markInt64SS_0))
  (.ghost (.kill [0, 5]) (.seq (.post (.reg [⟨(some 18), .op (.mv (.tmp 1)), none⟩,
    ⟨(some 4), .op (.mv (.tmp 18)), none⟩]) (.kill [1, 18]))
  .ret))))
theorem cf_laws_markInt64SS : chkFn Try.prog i_laws_markInt64SS ac_laws_markInt64SS [.tmp 4] 19 = true := by decide +kernel
def fa_laws_markInt64SS : FnA := ⟨ac_laws_markInt64SS, [.tmp 4], 19, true, false, [], .any, none⟩

/-- The checked code of laws markPlace. -/
def ac_laws_markPlace : AC := (.seq (.post (.reg [⟨(some 2), .op (.box false (.tmp 0)), none⟩,
    ⟨(some 4), .op (.mv (.const (Value.int .i64 0))), none⟩]) (.kill [0, 4]))
  (.seq (.post (.reg [⟨(some 5), .op (.faddr (.tmp 2) 2), none⟩,
    ⟨(some 6), .op (.load 1 false (.tmp 5)), none⟩,
    ⟨(some 7), .op (.mv (.tmp 1)), none⟩,
    ⟨(some 8), .call (.func i_laws_markInt64SS) [(.tmp 6), (.tmp 7)], none⟩,
    ⟨(some 1), .op (.mv (.tmp 8)), none⟩]) (.kill [2, 5, 6, 7, 8]))
  (.seq (.post (.reg [⟨(some 9), .op (.mv (.tmp 1)), none⟩,
    ⟨(some 4), .op (.mv (.tmp 9)), none⟩]) (.kill [1, 9]))
  .ret)))
theorem cf_laws_markPlace : chkFn Try.prog i_laws_markPlace ac_laws_markPlace [.tmp 4] 10 = true := by decide +kernel
def fa_laws_markPlace : FnA := ⟨ac_laws_markPlace, [.tmp 4], 10, true, false, [], .any, none⟩

/-- The checked code of laws heldInt64SS. -/
def lb_laws_heldInt64SS_0 : AC := (.seq (.seq (.post (.reg [⟨(some 6), .op (.mv (.tmp 5)), none⟩,
    ⟨(some 7), .op (.mv (.tmp 0)), none⟩,
    ⟨(some 8), .op (.len false (.tmp 7)), none⟩,
    ⟨(some 9), .op (.bin .lss (.tmp 6) (.tmp 8)), none⟩]) (.kill [6, 7, 8]))
  (.cond (.tmp 9) (.ghost (.kill [9]) .skip)
  (.ghost (.kill [0, 5, 9]) (.exit 0))))
  (.seq (.block 1 (.seq (.post (.reg [⟨(some 12), .op (.mv (.tmp 0)), none⟩,
    ⟨(some 13), .op (.mv (.tmp 5)), none⟩,
    ⟨(some 14), .op (.iaddrS (.tmp 12) (.tmp 13) 1), none⟩,
    ⟨(some 15), .op (.load 1 false (.tmp 14)), none⟩,
    ⟨(some 16), .op (.mv (.tmp 1)), none⟩,
    ⟨(some 17), .call (.func i_laws_heldInt64S) [(.tmp 15), (.tmp 16)], none⟩,
    ⟨(some 1), .op (.mv (.tmp 17)), none⟩]) (.kill [12, 13, 14, 15, 16, 17]))
  (.seq (.post (.reg [⟨(some 18), .op (.mv (.tmp 1)), none⟩,
    ⟨(some 19), .op (.bin .lss (.tmp 18) (.const (Value.int .i64 0))), none⟩]) (.kill [18]))
  (.cond (.tmp 19) (.ghost (.kill [0, 1, 5, 19]) (.seq (.reg [⟨(some 4), .op (.mv (.const (Value.int .i64 (-1)))), none⟩])
  .ret))
  (.ghost (.kill [19]) .skip)))))
  (.post (.reg [⟨(some 10), .op (.mv (.tmp 5)), none⟩,
    ⟨(some 11), .op (.bin .add (.tmp 10) (.const (Value.int .i64 1))), none⟩,
    ⟨(some 5), .op (.mv (.tmp 11)), none⟩]) (.kill [10, 11]))))
def lo_laws_heldInt64SS_0 : AC := (.loop lb_laws_heldInt64SS_0)
def ac_laws_heldInt64SS : AC := (.seq (.post (.reg [⟨(some 4), .op (.mv (.const (Value.int .i64 0))), none⟩]) (.kill [4]))
  (.seq (.seq (.reg [⟨(some 5), .op (.mv (.const (Value.int .i64 0))), none⟩])
  (.block 0 lo_laws_heldInt64SS_0))
  (.ghost (.kill [0, 5]) (.seq (.post (.reg [⟨(some 20), .op (.mv (.tmp 1)), none⟩,
    ⟨(some 4), .op (.mv (.tmp 20)), none⟩]) (.kill [1, 20]))
  .ret))))
theorem cf_laws_heldInt64SS : chkFn Try.prog i_laws_heldInt64SS ac_laws_heldInt64SS [.tmp 4] 21 = true := by decide +kernel
def fa_laws_heldInt64SS : FnA := ⟨ac_laws_heldInt64SS, [.tmp 4], 21, false, true, [(.lst 1 (.lst 1 .any)), .any], .any, none⟩

/-- The checked code of laws heldPlace. -/
def ac_laws_heldPlace : AC := (.seq (.post (.reg [⟨(some 2), .op (.box true (.tmp 0)), none⟩,
    ⟨(some 4), .op (.mv (.const (Value.int .i64 0))), none⟩]) (.kill [0, 4]))
  (.seq (.post (.reg [⟨(some 5), .op (.faddr (.tmp 2) 2), none⟩,
    ⟨(some 6), .op (.load 1 false (.tmp 5)), none⟩,
    ⟨(some 7), .op (.mv (.tmp 1)), none⟩,
    ⟨(some 8), .call (.func i_laws_heldInt64SS) [(.tmp 6), (.tmp 7)], none⟩,
    ⟨(some 1), .op (.mv (.tmp 8)), none⟩]) (.kill [2, 5, 6, 7, 8]))
  (.seq (.seq (.post (.reg [⟨(some 9), .op (.mv (.tmp 1)), none⟩,
    ⟨(some 10), .op (.bin .lss (.tmp 9) (.const (Value.int .i64 0))), none⟩]) (.kill [9]))
  (.cond (.tmp 10) (.ghost (.kill [1, 10]) (.seq (.reg [⟨(some 4), .op (.mv (.const (Value.int .i64 (-1)))), none⟩])
  .ret))
  (.ghost (.kill [10]) .skip)))
  (.seq (.post (.reg [⟨(some 11), .op (.mv (.tmp 1)), none⟩,
    ⟨(some 4), .op (.mv (.tmp 11)), none⟩]) (.kill [1, 11]))
  .ret))))
theorem cf_laws_heldPlace : chkFn Try.prog i_laws_heldPlace ac_laws_heldPlace [.tmp 4] 12 = true := by decide +kernel
def fa_laws_heldPlace : FnA := ⟨ac_laws_heldPlace, [.tmp 4], 12, false, true, [(.agg [.any, .any, (.lst 1 (.lst 1 .any))]), .any], .any, none⟩

/-- The checked code of laws FnExactRunProgram. -/
def ac_laws_FnExactRunProgram : AC := (.seq (.post (.reg [⟨(some 2), .op (.box true (.tmp 0)), none⟩,
    ⟨(some 4), .op (.mv (.const (Value.bool false))), none⟩]) (.kill [0, 4]))
  (.seq (.seq (.post (.reg [⟨(some 20), .op (.mv (.tmp 1)), none⟩,
    ⟨(some 21), .op (.len false (.tmp 20)), none⟩,
    ⟨(some 22), .op (.bin .gtr (.tmp 21) (.const (Value.int .i64 1048576))), none⟩]) (.kill [20, 21]))
  (.cond (.tmp 22) (.ghost (.kill [1, 2, 22]) (.seq (.reg [⟨(some 4), .op (.mv (.const (Value.bool true))), none⟩])
  .ret))
  (.ghost (.kill [22]) .skip)))
  (.seq (.reg [⟨(some 5), .op (.mv (.const (Value.int .i64 1048576))), none⟩])
  (.seq (.post (.reg [⟨(some 23), .op (.load 1 true (.tmp 2)), none⟩,
    ⟨(some 24), .op (.mv (.tmp 5)), none⟩,
    ⟨(some 25), .call (.func i_laws_szProgram) [(.tmp 23), (.tmp 24)], none⟩,
    ⟨(some 5), .op (.mv (.tmp 25)), none⟩]) (.kill [23, 24, 25]))
  (.seq (.seq (.post (.reg [⟨(some 26), .op (.mv (.tmp 5)), none⟩,
    ⟨(some 27), .op (.bin .lss (.tmp 26) (.const (Value.int .i64 0))), none⟩]) (.kill [5, 26]))
  (.cond (.tmp 27) (.ghost (.kill [1, 2, 27]) (.seq (.reg [⟨(some 4), .op (.mv (.const (Value.bool true))), none⟩])
  .ret))
  (.ghost (.kill [27]) .skip)))
  (.seq (.post (.reg [⟨(some 29), .op (.load 1 true (.tmp 2)), none⟩,
    ⟨(some 30), .call (.func i_laws_toProgram) [(.tmp 29)] true, none⟩,
    ⟨(some 31), .op (.mv (.tmp 1)), none⟩,
    ⟨(some 32), .call (.func i_laws_toInt64S) [(.tmp 31)] true, none⟩,
    ⟨(some 33), .call (.func i_spec_RunProgram) [(.tmp 30), (.tmp 32)], none⟩,
    ⟨(some 28), .op (.mv (.tmp 33)), none⟩,
    ⟨(some 34), .op (.ext (.tmp 28) 0), none⟩,
    ⟨(some 35), .op (.ext (.tmp 28) 1), none⟩,
    ⟨(some 36), .op (.ext (.tmp 28) 2), none⟩,
    ⟨(some 7), .op (.alloc (Value.agg #[Value.int .i64 0, Value.int .i64 0, Value.slice none 0 0])), none⟩,
    ⟨(some 6), .op (.mv (.tmp 34)), none⟩,
    ⟨none, .op (.store 3 (.tmp 7) (.tmp 35)), none⟩,
    ⟨(some 8), .op (.mv (.tmp 36)), none⟩]) (.kill [28, 29, 30, 31, 32, 33, 34, 35, 36]))
  (.seq (.post (.reg [⟨(some 37), .op (.load 1 true (.tmp 2)), none⟩,
    ⟨(some 38), .call (.func i_laws_toProgram) [(.tmp 37)], none⟩,
    ⟨(some 9), .op (.alloc (Value.agg #[Value.slice none 0 0])), none⟩,
    ⟨none, .op (.store 1 (.tmp 9) (.tmp 38)), none⟩]) (.kill [37, 38]))
  (.seq (.post (.reg [⟨(some 39), .op (.mv (.tmp 1)), none⟩,
    ⟨(some 40), .call (.func i_laws_toInt64S) [(.tmp 39)], none⟩,
    ⟨(some 10), .op (.mv (.tmp 40)), none⟩]) (.kill [39, 40]))
  (.seq (.post (.reg [⟨(some 42), .op (.load 1 true (.tmp 9)), none⟩,
    ⟨(some 43), .op (.mv (.tmp 10)), none⟩,
    ⟨(some 44), .call (.func i_impl_RunProgram) [(.tmp 42), (.tmp 43)], none⟩,
    ⟨(some 41), .op (.mv (.tmp 44)), none⟩,
    ⟨(some 45), .op (.ext (.tmp 41) 0), none⟩,
    ⟨(some 46), .op (.ext (.tmp 41) 1), none⟩,
    ⟨(some 47), .op (.ext (.tmp 41) 2), none⟩,
    ⟨(some 12), .op (.alloc (Value.agg #[Value.int .i64 0, Value.int .i64 0, Value.slice none 0 0])), none⟩,
    ⟨(some 11), .op (.mv (.tmp 45)), none⟩,
    ⟨none, .op (.store 3 (.tmp 12) (.tmp 46)), none⟩,
    ⟨(some 13), .op (.mv (.tmp 47)), none⟩]) (.kill [41, 42, 43, 44, 45, 46, 47]))
  (.seq (.seq (.post (.reg [⟨(some 48), .op (.mv (.tmp 11)), none⟩,
    ⟨(some 49), .op (.mv (.tmp 6)), none⟩,
    ⟨(some 50), .op (.bin .neq (.tmp 48) (.tmp 49)), none⟩,
    ⟨(some 51), .op (.mv (.tmp 50)), none⟩,
    ⟨(some 52), .op (.load 3 true (.tmp 12)), some (51, false)⟩,
    ⟨(some 53), .op (.load 3 true (.tmp 7)), some (51, false)⟩,
    ⟨(some 54), .call (.func i_laws_eqPlace) [(.tmp 52), (.tmp 53)], some (51, false)⟩,
    ⟨(some 55), .op (.un .not (.tmp 54)), some (51, false)⟩,
    ⟨(some 56), .op (.pick (.tmp 51) (.const (Value.bool true)) (.tmp 55)), none⟩,
    ⟨(some 57), .op (.mv (.tmp 56)), none⟩,
    ⟨(some 58), .op (.mv (.tmp 13)), some (57, false)⟩,
    ⟨(some 59), .op (.mv (.tmp 8)), some (57, false)⟩,
    ⟨(some 60), .op (.bin .neq (.tmp 58) (.tmp 59)), some (57, false)⟩,
    ⟨(some 61), .op (.pick (.tmp 57) (.const (Value.bool true)) (.tmp 60)), none⟩]) (.kill [48, 49, 50, 51, 52, 53, 54, 55, 56, 57, 58, 59, 60]))
  (.cond (.tmp 61) (.ghost (.kill [1, 2, 6, 7, 8, 9, 10, 11, 12, 13, 61]) (.seq (.reg [⟨(some 4), .op (.mv (.const (Value.bool false))), none⟩])
  .ret))
  (.ghost (.kill [61]) .skip)))
  (.seq (.seq (.post (.draw [⟨0, ⟨(some 62), .op (.load 1 true (.tmp 9)), none⟩, []⟩,
    ⟨1, ⟨(some 63), .op (.load 1 true (.tmp 2)), none⟩, []⟩,
    ⟨2, ⟨(some 64), .call (.func i_laws_toProgram) [(.tmp 63)], none⟩, [0]⟩,
    ⟨3, ⟨(some 65), .call (.func i_laws_eqProgram) [(.tmp 62), (.tmp 64)], none⟩, []⟩,
    ⟨4, ⟨(some 66), .op (.un .not (.tmp 65)), none⟩, []⟩]
    [0, 0, 2, 7, 15]) (.kill [62, 63, 64, 65]))
  (.cond (.tmp 66) (.ghost (.kill [1, 2, 6, 7, 8, 9, 10, 11, 12, 13, 66]) (.seq (.reg [⟨(some 4), .op (.mv (.const (Value.bool false))), none⟩])
  .ret))
  (.ghost (.kill [66]) .skip)))
  (.seq (.seq (.post (.reg [⟨(some 67), .op (.mv (.tmp 10)), none⟩,
    ⟨(some 68), .op (.mv (.tmp 1)), none⟩,
    ⟨(some 69), .call (.func i_laws_toInt64S) [(.tmp 68)], none⟩,
    ⟨(some 70), .call (.func i_laws_eqInt64S) [(.tmp 67), (.tmp 69)], none⟩,
    ⟨(some 71), .op (.un .not (.tmp 70)), none⟩]) (.kill [67, 68, 69, 70]))
  (.cond (.tmp 71) (.ghost (.kill [1, 2, 6, 7, 8, 9, 10, 11, 12, 13, 71]) (.seq (.reg [⟨(some 4), .op (.mv (.const (Value.bool false))), none⟩])
  .ret))
  (.ghost (.kill [71]) .skip)))
  (.seq (.reg [⟨(some 14), .op (.mv (.const (Value.int .i64 1))), none⟩])
  (.seq (.post (.reg [⟨(some 72), .op (.load 1 true (.tmp 9)), none⟩,
    ⟨(some 73), .op (.mv (.tmp 14)), none⟩,
    ⟨(some 74), .call (.func i_laws_markProgram) [(.tmp 72), (.tmp 73)], none⟩,
    ⟨(some 14), .op (.mv (.tmp 74)), none⟩]) (.kill [9, 72, 73, 74]))
  (.seq (.post (.reg [⟨(some 75), .op (.mv (.tmp 10)), none⟩,
    ⟨(some 76), .op (.mv (.tmp 14)), none⟩,
    ⟨(some 77), .call (.func i_laws_markInt64S) [(.tmp 75), (.tmp 76)], none⟩,
    ⟨(some 14), .op (.mv (.tmp 77)), none⟩]) (.kill [10, 75, 76, 77]))
  (.seq (.seq (.post (.reg [⟨(some 78), .op (.mv (.tmp 14)), none⟩,
    ⟨(some 79), .op (.bin .lss (.tmp 78) (.const (Value.int .i64 0))), none⟩,
    ⟨(some 80), .op (.mv (.tmp 79)), none⟩,
    ⟨(some 81), .op (.mv (.tmp 11)), some (80, false)⟩,
    ⟨(some 82), .op (.mv (.tmp 6)), some (80, false)⟩,
    ⟨(some 83), .op (.bin .neq (.tmp 81) (.tmp 82)), some (80, false)⟩,
    ⟨(some 84), .op (.pick (.tmp 80) (.const (Value.bool true)) (.tmp 83)), none⟩,
    ⟨(some 85), .op (.mv (.tmp 84)), none⟩,
    ⟨(some 86), .op (.load 3 true (.tmp 12)), some (85, false)⟩,
    ⟨(some 87), .op (.load 3 true (.tmp 7)), some (85, false)⟩,
    ⟨(some 88), .call (.func i_laws_eqPlace) [(.tmp 86), (.tmp 87)], some (85, false)⟩,
    ⟨(some 89), .op (.un .not (.tmp 88)), some (85, false)⟩,
    ⟨(some 90), .op (.pick (.tmp 85) (.const (Value.bool true)) (.tmp 89)), none⟩,
    ⟨(some 91), .op (.mv (.tmp 90)), none⟩,
    ⟨(some 92), .op (.mv (.tmp 13)), some (91, false)⟩,
    ⟨(some 93), .op (.mv (.tmp 8)), some (91, false)⟩,
    ⟨(some 94), .op (.bin .neq (.tmp 92) (.tmp 93)), some (91, false)⟩,
    ⟨(some 95), .op (.pick (.tmp 91) (.const (Value.bool true)) (.tmp 94)), none⟩]) (.kill [11, 13, 14, 78, 79, 80, 81, 82, 83, 84, 85, 86, 87, 88, 89, 90, 91, 92, 93, 94]))
  (.cond (.tmp 95) (.ghost (.kill [1, 2, 6, 7, 8, 12, 95]) (.seq (.reg [⟨(some 4), .op (.mv (.const (Value.bool false))), none⟩])
  .ret))
  (.ghost (.kill [95]) .skip)))
  (.seq (.reg [⟨(some 15), .op (.mv (.const (Value.int .i64 1))), none⟩])
  (.seq (.post (.reg [⟨(some 96), .op (.load 3 true (.tmp 12)), none⟩,
    ⟨(some 97), .op (.mv (.tmp 15)), none⟩,
    ⟨(some 98), .call (.func i_laws_markPlace) [(.tmp 96), (.tmp 97)], none⟩,
    ⟨(some 15), .op (.mv (.tmp 98)), none⟩]) (.kill [96, 97, 98]))
  (.seq (.reg [⟨(some 16), .op (.mv (.const (Value.int .i64 1))), none⟩])
  (.seq (.post (.reg [⟨(some 99), .op (.load 3 true (.tmp 12)), none⟩,
    ⟨(some 100), .op (.mv (.tmp 16)), none⟩,
    ⟨(some 101), .call (.func i_laws_heldPlace) [(.tmp 99), (.tmp 100)], none⟩,
    ⟨(some 16), .op (.mv (.tmp 101)), none⟩]) (.kill [99, 100, 101]))
  (.seq (.seq (.post (.reg [⟨(some 102), .op (.mv (.tmp 16)), none⟩,
    ⟨(some 103), .op (.bin .lss (.tmp 102) (.const (Value.int .i64 0))), none⟩]) (.kill [102]))
  (.cond (.tmp 103) (.ghost (.kill [1, 2, 6, 7, 8, 12, 15, 16, 103]) (.seq (.reg [⟨(some 4), .op (.mv (.const (Value.bool false))), none⟩])
  .ret))
  (.ghost (.kill [103]) .skip)))
  (.seq (.seq (.post (.reg [⟨(some 104), .op (.mv (.tmp 16)), none⟩,
    ⟨(some 105), .op (.mv (.tmp 15)), none⟩,
    ⟨(some 106), .op (.bin .neq (.tmp 104) (.tmp 105)), none⟩]) (.kill [16, 104, 105]))
  (.cond (.tmp 106) (.ghost (.kill [1, 2, 6, 7, 8, 12, 15, 106]) (.seq (.reg [⟨(some 4), .op (.mv (.const (Value.bool false))), none⟩])
  .ret))
  (.ghost (.kill [106]) .skip)))
  (.seq (.post (.reg [⟨(some 108), .op (.load 1 true (.tmp 2)), none⟩,
    ⟨(some 109), .call (.func i_laws_toProgram) [(.tmp 108)], none⟩,
    ⟨(some 110), .op (.mv (.tmp 1)), none⟩,
    ⟨(some 111), .call (.func i_laws_toInt64S) [(.tmp 110)], none⟩,
    ⟨(some 112), .call (.func i_impl_RunProgram) [(.tmp 109), (.tmp 111)], none⟩,
    ⟨(some 107), .op (.mv (.tmp 112)), none⟩,
    ⟨(some 113), .op (.ext (.tmp 107) 0), none⟩,
    ⟨(some 114), .op (.ext (.tmp 107) 1), none⟩,
    ⟨(some 115), .op (.ext (.tmp 107) 2), none⟩,
    ⟨(some 18), .op (.alloc (Value.agg #[Value.int .i64 0, Value.int .i64 0, Value.slice none 0 0])), none⟩,
    ⟨(some 17), .op (.mv (.tmp 113)), none⟩,
    ⟨none, .op (.store 3 (.tmp 18) (.tmp 114)), none⟩,
    ⟨(some 19), .op (.mv (.tmp 115)), none⟩]) (.kill [1, 2, 107, 108, 109, 110, 111, 112, 113, 114, 115]))
  (.seq (.seq (.post (.reg [⟨(some 116), .op (.mv (.tmp 17)), none⟩,
    ⟨(some 117), .op (.mv (.tmp 6)), none⟩,
    ⟨(some 118), .op (.bin .neq (.tmp 116) (.tmp 117)), none⟩,
    ⟨(some 119), .op (.mv (.tmp 118)), none⟩,
    ⟨(some 120), .op (.load 3 true (.tmp 18)), some (119, false)⟩,
    ⟨(some 121), .op (.load 3 true (.tmp 7)), some (119, false)⟩,
    ⟨(some 122), .call (.func i_laws_eqPlace) [(.tmp 120), (.tmp 121)], some (119, false)⟩,
    ⟨(some 123), .op (.un .not (.tmp 122)), some (119, false)⟩,
    ⟨(some 124), .op (.pick (.tmp 119) (.const (Value.bool true)) (.tmp 123)), none⟩,
    ⟨(some 125), .op (.mv (.tmp 124)), none⟩,
    ⟨(some 126), .op (.mv (.tmp 19)), some (125, false)⟩,
    ⟨(some 127), .op (.mv (.tmp 8)), some (125, false)⟩,
    ⟨(some 128), .op (.bin .neq (.tmp 126) (.tmp 127)), some (125, false)⟩,
    ⟨(some 129), .op (.pick (.tmp 125) (.const (Value.bool true)) (.tmp 128)), none⟩]) (.kill [6, 7, 8, 17, 18, 19, 116, 117, 118, 119, 120, 121, 122, 123, 124, 125, 126, 127, 128]))
  (.cond (.tmp 129) (.ghost (.kill [12, 15, 129]) (.seq (.reg [⟨(some 4), .op (.mv (.const (Value.bool false))), none⟩])
  .ret))
  (.ghost (.kill [129]) .skip)))
  (.seq (.reg [⟨(some 16), .op (.mv (.const (Value.int .i64 1))), none⟩])
  (.seq (.post (.reg [⟨(some 130), .op (.load 3 true (.tmp 12)), none⟩,
    ⟨(some 131), .op (.mv (.tmp 16)), none⟩,
    ⟨(some 132), .call (.func i_laws_heldPlace) [(.tmp 130), (.tmp 131)], none⟩,
    ⟨(some 16), .op (.mv (.tmp 132)), none⟩]) (.kill [12, 130, 131, 132]))
  (.seq (.seq (.post (.reg [⟨(some 133), .op (.mv (.tmp 16)), none⟩,
    ⟨(some 134), .op (.bin .lss (.tmp 133) (.const (Value.int .i64 0))), none⟩]) (.kill [133]))
  (.cond (.tmp 134) (.ghost (.kill [15, 16, 134]) (.seq (.reg [⟨(some 4), .op (.mv (.const (Value.bool false))), none⟩])
  .ret))
  (.ghost (.kill [134]) .skip)))
  (.seq (.seq (.post (.reg [⟨(some 135), .op (.mv (.tmp 16)), none⟩,
    ⟨(some 136), .op (.mv (.tmp 15)), none⟩,
    ⟨(some 137), .op (.bin .neq (.tmp 135) (.tmp 136)), none⟩]) (.kill [15, 16, 135, 136]))
  (.cond (.tmp 137) (.ghost (.kill [137]) (.seq (.reg [⟨(some 4), .op (.mv (.const (Value.bool false))), none⟩])
  .ret))
  (.ghost (.kill [137]) .skip)))
  (.seq (.reg [⟨(some 4), .op (.mv (.const (Value.bool true))), none⟩])
  .ret)))))))))))))))))))))))))))))
theorem cf_laws_FnExactRunProgram : chkFn Try.prog i_laws_FnExactRunProgram ac_laws_FnExactRunProgram [.tmp 4] 138 = true := by decide +kernel
def fa_laws_FnExactRunProgram : FnA := ⟨ac_laws_FnExactRunProgram, [.tmp 4], 138, false, true, [], .any, none⟩

end Go.Proofs.Ytegjfjckijmgcaa
