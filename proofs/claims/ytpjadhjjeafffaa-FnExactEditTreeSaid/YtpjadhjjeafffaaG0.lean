/- The code of the functions, checked against the loaded program; printed by a program (gen2.py). -/
import Derived.Test.YtpjadhjjeafffaaProg
import Derived.Test.YtpjadhjjeafffaaAw25
set_option linter.unusedVariables false
set_option maxRecDepth 100000
namespace Go.Proofs.Ytpjadhjjeafffaa
open Aw

/-! The numbers of the functions. -/
def i_laws_FnExactSameProgram : FuncId := 3
def i_laws_FnExactValidTreeEdit : FuncId := 4
def i_laws_FnExactValidProgram : FuncId := 5
def i_laws_FnExactUnwrapRewriter : FuncId := 8
def i_laws_FnExactThinRewriter : FuncId := 10
def i_laws_FnExactDropRewriter : FuncId := 11
def i_laws_FnExactSameRewriter : FuncId := 12
def i_laws_FnExactRenameRewriter : FuncId := 13
def i_laws_FnExactEditTree : FuncId := 14
def i_laws_szProgram : FuncId := 15
def i_spec_SameProgram : FuncId := 16
def i_laws_toProgram : FuncId := 17
def i_impl_SameProgram : FuncId := 18
def i_laws_eqProgram : FuncId := 19
def i_laws_szTreeEdit : FuncId := 20
def i_spec_ValidTreeEdit : FuncId := 21
def i_laws_toTreeEdit : FuncId := 22
def i_impl_ValidTreeEdit : FuncId := 23
def i_spec_ValidProgram : FuncId := 24
def i_impl_ValidProgram : FuncId := 25
def i_laws_eqRewriter : FuncId := 28
def i_laws_markRewriter : FuncId := 29
def i_laws_heldRewriter : FuncId := 30
def i_spec_UnwrapRewriter : FuncId := 33
def i_impl_UnwrapRewriter : FuncId := 34
def i_spec_ThinRewriter : FuncId := 47
def i_impl_ThinRewriter : FuncId := 48
def i_spec_DropRewriter : FuncId := 49
def i_impl_DropRewriter : FuncId := 50
def i_laws_szRewriter : FuncId := 51
def i_spec_SameRewriter : FuncId := 52
def i_laws_toRewriter : FuncId := 53
def i_impl_SameRewriter : FuncId := 54
def i_spec_RenameRewriter : FuncId := 55
def i_impl_RenameRewriter : FuncId := 56
def i_spec_EditTree : FuncId := 57
def i_impl_EditTree : FuncId := 58
def i_laws_szModuleS : FuncId := 59
def i_laws_toModuleS : FuncId := 60
def i_slices_EqualFunc_L_impl_Module : FuncId := 61
def i_impl_SameProgram_1 : FuncId := 62
def i_slices_Equal_L_impl_Link : FuncId := 63
def i_laws_eqModuleS : FuncId := 64
def i_spec_l06Edit : FuncId := 65
def i_impl_treeFormOf : FuncId := 66
def i_impl_within : FuncId := 67
def i_impl_ValidWord : FuncId := 68
def i_impl_isMatched : FuncId := 69
def i_impl_isBrackets : FuncId := 70
def i_spec_l07Ok : FuncId := 71
def i_impl_size_impl_Module : FuncId := 72
def i_slices_ContainsFunc_L_impl_Module : FuncId := 73
def i_impl_ValidProgram_1 : FuncId := 74
def i_slices_ContainsFunc_L_impl_Link : FuncId := 75
def i_impl_ValidProgram_1_1 : FuncId := 76
def i_impl_isLetter : FuncId := 77
def i_spec_l06Plain : FuncId := 78
def i_impl_renaming : FuncId := 79
def i_impl_symbol : FuncId := 80
def i_laws_eqOutPushSS : FuncId := 81
def i_laws_eqOutMoveSSS : FuncId := 82
def i_laws_eqOutMoveSS : FuncId := 83
def i_laws_markOutPushSS : FuncId := 84
def i_laws_markOutMoveSSS : FuncId := 85
def i_laws_markOutMoveSS : FuncId := 86
def i_laws_heldOutPushSS : FuncId := 87
def i_laws_heldOutMoveSSS : FuncId := 88
def i_laws_heldOutMoveSS : FuncId := 89
def i_impl_builtRewriter : FuncId := 90
def i_impl_UnwrapRewriter_1 : FuncId := 94
def i_impl_UnwrapRewriter_2 : FuncId := 95
def i_impl_UnwrapRewriter_3 : FuncId := 96
def i_spec_l01Ok : FuncId := 107
def i_spec_l06Letter : FuncId := 117
def i_impl_ThinRewriter_1 : FuncId := 118
def i_impl_ThinRewriter_2 : FuncId := 119
def i_impl_ThinRewriter_3 : FuncId := 120
def i_impl_DropRewriter_1 : FuncId := 121
def i_laws_szOutPushSS : FuncId := 122
def i_laws_szOutMoveSSS : FuncId := 123
def i_laws_szOutMoveSS : FuncId := 124
def i_spec_l06SameMoves : FuncId := 125
def i_laws_toOutPushSS : FuncId := 126
def i_laws_toOutMoveSSS : FuncId := 127
def i_laws_toOutMoveSS : FuncId := 128
def i_impl_SameRewriter_1 : FuncId := 129
def i_slices_EqualFunc_L_L_impl_OutMove : FuncId := 130
def i_slices_Equal_L_impl_OutMove : FuncId := 131
def i_slices_EqualFunc_L_L_impl_OutPush : FuncId := 132
def i_slices_Equal_L_impl_OutPush : FuncId := 133
def i_slices_EqualFunc_L_L_L_impl_OutMove : FuncId := 134
def i_spec_l01Call : FuncId := 135
def i_spec_l01Return : FuncId := 136
def i_impl_isCall : FuncId := 137
def i_impl_isReturn : FuncId := 138
def i_impl_isInner : FuncId := 139
def i_impl_RenameRewriter_1 : FuncId := 140
def i_spec_l06Given : FuncId := 141
def i_spec_l06Made : FuncId := 142
def i_impl_editTree : FuncId := 143
def i_laws_szModule : FuncId := 144
def i_laws_toModule : FuncId := 145
def i_laws_eqModule : FuncId := 146
def i_spec_l00In : FuncId := 147
def i_spec_l01Matched : FuncId := 148
def i_spec_l06Brackets : FuncId := 149
def i_strings_IndexByte : FuncId := 150
def i_impl_match : FuncId := 151
def i_spec_l07Inner : FuncId := 152
def i_slices_IndexFunc_L_impl_Module : FuncId := 153
def i_slices_IndexFunc_L_impl_Link : FuncId := 154
def i_impl_renaming_1 : FuncId := 155
def i_impl_renaming_2 : FuncId := 156
def i_impl_renaming_3 : FuncId := 157
def i_laws_eqOutPushS : FuncId := 158
def i_laws_eqOutMoveS : FuncId := 159
def i_laws_markOutPushS : FuncId := 160
def i_laws_markOutMoveS : FuncId := 161
def i_laws_heldOutPushS : FuncId := 162
def i_laws_heldOutMoveS : FuncId := 163
def i_impl_size_int64 : FuncId := 175
def i_spec_l01Symbol : FuncId := 178
def i_laws_szOutPushS : FuncId := 184
def i_laws_szOutMoveS : FuncId := 185
def i_laws_toOutPushS : FuncId := 186
def i_laws_toOutMoveS : FuncId := 187
def i_spec_PutAt : FuncId := 188
def i_spec_CutMatched : FuncId := 189
def i_spec_l01Partners : FuncId := 190
def i_impl_PutAt : FuncId := 191
def i_impl_CutMatched : FuncId := 192
def i_impl_orLimit : FuncId := 193
def i_impl_bodyAt : FuncId := 194
def i_laws_szLinkS : FuncId := 195
def i_laws_toLinkS : FuncId := 196
def i_laws_eqLinkS : FuncId := 197
def i_spec_l01Pending : FuncId := 198
def i_internal_stringslite_IndexByte : FuncId := 199
def i_laws_eqOutPush : FuncId := 200
def i_laws_eqOutMove : FuncId := 201
def i_laws_markText : FuncId := 202
def i_laws_szOutPush : FuncId := 209
def i_laws_szOutMove : FuncId := 210
def i_laws_toOutPush : FuncId := 211
def i_laws_toOutMove : FuncId := 212
def i_spec_l01Told : FuncId := 213
def i_spec_l01Closed : FuncId := 214
def i_laws_szLink : FuncId := 215
def i_laws_toLink : FuncId := 216
def i_laws_eqLink : FuncId := 217
def i_internal_bytealg_IndexByteString : FuncId := 218

/-- The checked code of laws szLink. -/
def ac_laws_szLink : AC := (.seq (.post (.reg [⟨(some 2), .op (.box true (.tmp 0)), none⟩,
    ⟨(some 4), .op (.mv (.const (Value.int .i64 0))), none⟩]) (.kill [0, 4]))
  (.seq (.post (.reg [⟨(some 5), .op (.mv (.tmp 1)), none⟩,
    ⟨(some 6), .op (.faddr (.tmp 2) 2), none⟩,
    ⟨(some 7), .op (.load 1 false (.tmp 6)), none⟩,
    ⟨(some 8), .op (.len true (.tmp 7)), none⟩,
    ⟨(some 9), .op (.bin .sub (.tmp 5) (.tmp 8)), none⟩,
    ⟨(some 1), .op (.mv (.tmp 9)), none⟩]) (.kill [2, 5, 6, 7, 8, 9]))
  (.seq (.seq (.post (.reg [⟨(some 10), .op (.mv (.tmp 1)), none⟩,
    ⟨(some 11), .op (.bin .lss (.tmp 10) (.const (Value.int .i64 0))), none⟩]) (.kill [10]))
  (.cond (.tmp 11) (.ghost (.kill [1, 11]) (.seq (.reg [⟨(some 4), .op (.mv (.const (Value.int .i64 (-1)))), none⟩])
  .ret))
  (.ghost (.kill [11]) .skip)))
  (.seq (.post (.reg [⟨(some 12), .op (.mv (.tmp 1)), none⟩,
    ⟨(some 4), .op (.mv (.tmp 12)), none⟩]) (.kill [1, 12]))
  .ret))))
theorem cf_laws_szLink : chkFn Try.prog i_laws_szLink ac_laws_szLink [.tmp 4] 13 = true := by decide +kernel
def fa_laws_szLink : FnA := ⟨ac_laws_szLink, [.tmp 4], 13, false, true⟩

/-- The checked code of laws szLinkS. -/
def lb_laws_szLinkS_0 : AC := (.seq (.seq (.post (.reg [⟨(some 12), .op (.mv (.tmp 5)), none⟩,
    ⟨(some 13), .op (.mv (.tmp 0)), none⟩,
    ⟨(some 14), .op (.len false (.tmp 13)), none⟩,
    ⟨(some 15), .op (.bin .lss (.tmp 12) (.tmp 14)), none⟩]) (.kill [12, 13, 14]))
  (.cond (.tmp 15) (.ghost (.kill [15]) .skip)
  (.ghost (.kill [0, 5, 15]) (.exit 0))))
  (.seq (.block 1 (.seq (.post (.reg [⟨(some 18), .op (.mv (.tmp 0)), none⟩,
    ⟨(some 19), .op (.mv (.tmp 5)), none⟩,
    ⟨(some 20), .op (.iaddrS (.tmp 18) (.tmp 19) 4), none⟩,
    ⟨(some 21), .op (.load 4 true (.tmp 20)), none⟩,
    ⟨(some 22), .op (.mv (.tmp 1)), none⟩,
    ⟨(some 23), .call (.func i_laws_szLink) [(.tmp 21), (.tmp 22)], none⟩,
    ⟨(some 1), .op (.mv (.tmp 23)), none⟩]) (.kill [18, 19, 20, 21, 22, 23]))
  (.seq (.post (.reg [⟨(some 24), .op (.mv (.tmp 1)), none⟩,
    ⟨(some 25), .op (.bin .lss (.tmp 24) (.const (Value.int .i64 0))), none⟩]) (.kill [24]))
  (.cond (.tmp 25) (.ghost (.kill [0, 1, 5, 25]) (.seq (.reg [⟨(some 4), .op (.mv (.const (Value.int .i64 (-1)))), none⟩])
  .ret))
  (.ghost (.kill [25]) .skip)))))
  (.post (.reg [⟨(some 16), .op (.mv (.tmp 5)), none⟩,
    ⟨(some 17), .op (.bin .add (.tmp 16) (.const (Value.int .i64 1))), none⟩,
    ⟨(some 5), .op (.mv (.tmp 17)), none⟩]) (.kill [16, 17]))))
def lo_laws_szLinkS_0 : AC := (.loop lb_laws_szLinkS_0)
def ac_laws_szLinkS : AC := (.seq (.post (.reg [⟨(some 4), .op (.mv (.const (Value.int .i64 0))), none⟩]) (.kill [4]))
  (.seq (.post (.reg [⟨(some 6), .op (.mv (.tmp 1)), none⟩,
    ⟨(some 7), .op (.mv (.tmp 0)), none⟩,
    ⟨(some 8), .op (.len false (.tmp 7)), none⟩,
    ⟨(some 9), .op (.bin .sub (.tmp 6) (.tmp 8)), none⟩,
    ⟨(some 1), .op (.mv (.tmp 9)), none⟩]) (.kill [6, 7, 8, 9]))
  (.seq (.seq (.post (.reg [⟨(some 10), .op (.mv (.tmp 1)), none⟩,
    ⟨(some 11), .op (.bin .lss (.tmp 10) (.const (Value.int .i64 0))), none⟩]) (.kill [10]))
  (.cond (.tmp 11) (.ghost (.kill [0, 1, 11]) (.seq (.reg [⟨(some 4), .op (.mv (.const (Value.int .i64 (-1)))), none⟩])
  .ret))
  (.ghost (.kill [11]) .skip)))
  (.seq (.seq (.reg [⟨(some 5), .op (.mv (.const (Value.int .i64 0))), none⟩])
  (.block 0 lo_laws_szLinkS_0))
  (.ghost (.kill [0, 5]) (.seq (.post (.reg [⟨(some 26), .op (.mv (.tmp 1)), none⟩,
    ⟨(some 4), .op (.mv (.tmp 26)), none⟩]) (.kill [1, 26]))
  .ret))))))
theorem cf_laws_szLinkS : chkFn Try.prog i_laws_szLinkS ac_laws_szLinkS [.tmp 4] 27 = true := by decide +kernel
def fa_laws_szLinkS : FnA := ⟨ac_laws_szLinkS, [.tmp 4], 27, false, true⟩

/-- The checked code of laws szModule. -/
def ac_laws_szModule : AC := (.seq (.post (.reg [⟨(some 2), .op (.box true (.tmp 0)), none⟩,
    ⟨(some 4), .op (.mv (.const (Value.int .i64 0))), none⟩]) (.kill [0, 4]))
  (.seq (.post (.reg [⟨(some 5), .op (.faddr (.tmp 2) 1), none⟩,
    ⟨(some 6), .op (.load 1 false (.tmp 5)), none⟩,
    ⟨(some 7), .op (.mv (.tmp 1)), none⟩,
    ⟨(some 8), .call (.func i_laws_szLinkS) [(.tmp 6), (.tmp 7)], none⟩,
    ⟨(some 1), .op (.mv (.tmp 8)), none⟩]) (.kill [2, 5, 6, 7, 8]))
  (.seq (.seq (.post (.reg [⟨(some 9), .op (.mv (.tmp 1)), none⟩,
    ⟨(some 10), .op (.bin .lss (.tmp 9) (.const (Value.int .i64 0))), none⟩]) (.kill [9]))
  (.cond (.tmp 10) (.ghost (.kill [1, 10]) (.seq (.reg [⟨(some 4), .op (.mv (.const (Value.int .i64 (-1)))), none⟩])
  .ret))
  (.ghost (.kill [10]) .skip)))
  (.seq (.post (.reg [⟨(some 11), .op (.mv (.tmp 1)), none⟩,
    ⟨(some 4), .op (.mv (.tmp 11)), none⟩]) (.kill [1, 11]))
  .ret))))
theorem cf_laws_szModule : chkFn Try.prog i_laws_szModule ac_laws_szModule [.tmp 4] 12 = true := by decide +kernel
def fa_laws_szModule : FnA := ⟨ac_laws_szModule, [.tmp 4], 12, false, true⟩

/-- The checked code of laws szModuleS. -/
def lb_laws_szModuleS_0 : AC := (.seq (.seq (.post (.reg [⟨(some 12), .op (.mv (.tmp 5)), none⟩,
    ⟨(some 13), .op (.mv (.tmp 0)), none⟩,
    ⟨(some 14), .op (.len false (.tmp 13)), none⟩,
    ⟨(some 15), .op (.bin .lss (.tmp 12) (.tmp 14)), none⟩]) (.kill [12, 13, 14]))
  (.cond (.tmp 15) (.ghost (.kill [15]) .skip)
  (.ghost (.kill [0, 5, 15]) (.exit 0))))
  (.seq (.block 1 (.seq (.post (.reg [⟨(some 18), .op (.mv (.tmp 0)), none⟩,
    ⟨(some 19), .op (.mv (.tmp 5)), none⟩,
    ⟨(some 20), .op (.iaddrS (.tmp 18) (.tmp 19) 2), none⟩,
    ⟨(some 21), .op (.load 2 true (.tmp 20)), none⟩,
    ⟨(some 22), .op (.mv (.tmp 1)), none⟩,
    ⟨(some 23), .call (.func i_laws_szModule) [(.tmp 21), (.tmp 22)], none⟩,
    ⟨(some 1), .op (.mv (.tmp 23)), none⟩]) (.kill [18, 19, 20, 21, 22, 23]))
  (.seq (.post (.reg [⟨(some 24), .op (.mv (.tmp 1)), none⟩,
    ⟨(some 25), .op (.bin .lss (.tmp 24) (.const (Value.int .i64 0))), none⟩]) (.kill [24]))
  (.cond (.tmp 25) (.ghost (.kill [0, 1, 5, 25]) (.seq (.reg [⟨(some 4), .op (.mv (.const (Value.int .i64 (-1)))), none⟩])
  .ret))
  (.ghost (.kill [25]) .skip)))))
  (.post (.reg [⟨(some 16), .op (.mv (.tmp 5)), none⟩,
    ⟨(some 17), .op (.bin .add (.tmp 16) (.const (Value.int .i64 1))), none⟩,
    ⟨(some 5), .op (.mv (.tmp 17)), none⟩]) (.kill [16, 17]))))
def lo_laws_szModuleS_0 : AC := (.loop lb_laws_szModuleS_0)
def ac_laws_szModuleS : AC := (.seq (.post (.reg [⟨(some 4), .op (.mv (.const (Value.int .i64 0))), none⟩]) (.kill [4]))
  (.seq (.post (.reg [⟨(some 6), .op (.mv (.tmp 1)), none⟩,
    ⟨(some 7), .op (.mv (.tmp 0)), none⟩,
    ⟨(some 8), .op (.len false (.tmp 7)), none⟩,
    ⟨(some 9), .op (.bin .sub (.tmp 6) (.tmp 8)), none⟩,
    ⟨(some 1), .op (.mv (.tmp 9)), none⟩]) (.kill [6, 7, 8, 9]))
  (.seq (.seq (.post (.reg [⟨(some 10), .op (.mv (.tmp 1)), none⟩,
    ⟨(some 11), .op (.bin .lss (.tmp 10) (.const (Value.int .i64 0))), none⟩]) (.kill [10]))
  (.cond (.tmp 11) (.ghost (.kill [0, 1, 11]) (.seq (.reg [⟨(some 4), .op (.mv (.const (Value.int .i64 (-1)))), none⟩])
  .ret))
  (.ghost (.kill [11]) .skip)))
  (.seq (.seq (.reg [⟨(some 5), .op (.mv (.const (Value.int .i64 0))), none⟩])
  (.block 0 lo_laws_szModuleS_0))
  (.ghost (.kill [0, 5]) (.seq (.post (.reg [⟨(some 26), .op (.mv (.tmp 1)), none⟩,
    ⟨(some 4), .op (.mv (.tmp 26)), none⟩]) (.kill [1, 26]))
  .ret))))))
theorem cf_laws_szModuleS : chkFn Try.prog i_laws_szModuleS ac_laws_szModuleS [.tmp 4] 27 = true := by decide +kernel
def fa_laws_szModuleS : FnA := ⟨ac_laws_szModuleS, [.tmp 4], 27, false, true⟩

/-- The checked code of laws szProgram. -/
def ac_laws_szProgram : AC := (.seq (.post (.reg [⟨(some 2), .op (.box true (.tmp 0)), none⟩,
    ⟨(some 4), .op (.mv (.const (Value.int .i64 0))), none⟩]) (.kill [0, 4]))
  (.seq (.post (.reg [⟨(some 5), .op (.faddr (.tmp 2) 0), none⟩,
    ⟨(some 6), .op (.load 1 false (.tmp 5)), none⟩,
    ⟨(some 7), .op (.mv (.tmp 1)), none⟩,
    ⟨(some 8), .call (.func i_laws_szModuleS) [(.tmp 6), (.tmp 7)], none⟩,
    ⟨(some 1), .op (.mv (.tmp 8)), none⟩]) (.kill [2, 5, 6, 7, 8]))
  (.seq (.seq (.post (.reg [⟨(some 9), .op (.mv (.tmp 1)), none⟩,
    ⟨(some 10), .op (.bin .lss (.tmp 9) (.const (Value.int .i64 0))), none⟩]) (.kill [9]))
  (.cond (.tmp 10) (.ghost (.kill [1, 10]) (.seq (.reg [⟨(some 4), .op (.mv (.const (Value.int .i64 (-1)))), none⟩])
  .ret))
  (.ghost (.kill [10]) .skip)))
  (.seq (.post (.reg [⟨(some 11), .op (.mv (.tmp 1)), none⟩,
    ⟨(some 4), .op (.mv (.tmp 11)), none⟩]) (.kill [1, 11]))
  .ret))))
theorem cf_laws_szProgram : chkFn Try.prog i_laws_szProgram ac_laws_szProgram [.tmp 4] 12 = true := by decide +kernel
def fa_laws_szProgram : FnA := ⟨ac_laws_szProgram, [.tmp 4], 12, false, true⟩

/-- The checked code of spec SameProgram. -/
def lb_spec_SameProgram_0 : AC := (.seq (.seq (.post (.reg [⟨(some 51), .op (.mv (.tmp 6)), none⟩,
    ⟨(some 52), .op (.faddr (.tmp 2) 0), none⟩,
    ⟨(some 53), .op (.load 1 false (.tmp 52)), none⟩,
    ⟨(some 54), .op (.mv (.tmp 5)), none⟩,
    ⟨(some 55), .op (.iaddrS (.tmp 53) (.tmp 54) 2), none⟩,
    ⟨(some 56), .op (.faddr (.tmp 55) 1), none⟩,
    ⟨(some 57), .op (.load 1 false (.tmp 56)), none⟩,
    ⟨(some 58), .op (.len false (.tmp 57)), none⟩,
    ⟨(some 59), .op (.bin .lss (.tmp 51) (.tmp 58)), none⟩]) (.kill [51, 52, 53, 54, 55, 56, 57, 58]))
  (.cond (.tmp 59) (.ghost (.kill [59]) .skip)
  (.ghost (.kill [6, 59]) (.exit 2))))
  (.seq (.block 3 (.seq (.post (.draw [⟨0, ⟨(some 62), .op (.faddr (.tmp 2) 0), none⟩, []⟩,
    ⟨1, ⟨(some 63), .op (.load 1 false (.tmp 62)), none⟩, []⟩,
    ⟨2, ⟨(some 64), .op (.mv (.tmp 5)), none⟩, []⟩,
    ⟨3, ⟨(some 65), .op (.iaddrS (.tmp 63) (.tmp 64) 2), none⟩, []⟩,
    ⟨4, ⟨(some 66), .op (.faddr (.tmp 65) 1), none⟩, []⟩,
    ⟨5, ⟨(some 67), .op (.load 1 false (.tmp 66)), none⟩, []⟩,
    ⟨6, ⟨(some 68), .op (.mv (.tmp 6)), none⟩, []⟩,
    ⟨7, ⟨(some 69), .op (.iaddrS (.tmp 67) (.tmp 68) 4), none⟩, []⟩,
    ⟨8, ⟨(some 70), .op (.load 4 true (.tmp 69)), none⟩, []⟩,
    ⟨9, ⟨(some 71), .op (.faddr (.tmp 3) 0), none⟩, []⟩,
    ⟨10, ⟨(some 72), .op (.load 1 false (.tmp 71)), none⟩, []⟩,
    ⟨11, ⟨(some 73), .op (.mv (.tmp 5)), none⟩, []⟩,
    ⟨12, ⟨(some 74), .op (.iaddrS (.tmp 72) (.tmp 73) 2), none⟩, []⟩,
    ⟨13, ⟨(some 75), .op (.faddr (.tmp 74) 1), none⟩, []⟩,
    ⟨14, ⟨(some 76), .op (.load 1 false (.tmp 75)), none⟩, []⟩,
    ⟨15, ⟨(some 77), .op (.mv (.tmp 6)), none⟩, []⟩,
    ⟨16, ⟨(some 78), .op (.iaddrS (.tmp 76) (.tmp 77) 4), none⟩, []⟩,
    ⟨17, ⟨(some 79), .op (.load 4 true (.tmp 78)), none⟩, []⟩,
    ⟨18, ⟨(some 80), .op (.eqst true [(.i .i64), (.i .i64), .s, (.i .i64)] (.tmp 70) (.tmp 79)), none⟩, []⟩]
    [0, 1, 0, 7, 15, 31, 0, 127, 255, 0, 512, 0, 3584, 7680, 15872, 0, 65024, 130560, 262143]) (.kill [62, 63, 64, 65, 66, 67, 68, 69, 70, 71, 72, 73, 74, 75, 76, 77, 78, 79]))
  (.cond (.tmp 80) (.ghost (.kill [2, 3, 5, 6, 80]) (.seq (.reg [⟨(some 4), .op (.mv (.const (Value.bool false))), none⟩])
  .ret))
  (.ghost (.kill [80]) .skip))))
  (.post (.reg [⟨(some 60), .op (.mv (.tmp 6)), none⟩,
    ⟨(some 61), .op (.bin .add (.tmp 60) (.const (Value.int .i64 1))), none⟩,
    ⟨(some 6), .op (.mv (.tmp 61)), none⟩]) (.kill [60, 61]))))
def lo_spec_SameProgram_0 : AC := (.loop lb_spec_SameProgram_0)
def lb_spec_SameProgram_1 : AC := (.seq (.seq (.post (.reg [⟨(some 14), .op (.mv (.tmp 5)), none⟩,
    ⟨(some 15), .op (.faddr (.tmp 2) 0), none⟩,
    ⟨(some 16), .op (.load 1 false (.tmp 15)), none⟩,
    ⟨(some 17), .op (.len false (.tmp 16)), none⟩,
    ⟨(some 18), .op (.bin .lss (.tmp 14) (.tmp 17)), none⟩]) (.kill [14, 15, 16, 17]))
  (.cond (.tmp 18) (.ghost (.kill [18]) .skip)
  (.ghost (.kill [2, 3, 5, 18]) (.exit 0))))
  (.seq (.block 1 (.seq (.seq (.post (.draw [⟨0, ⟨(some 21), .op (.faddr (.tmp 2) 0), none⟩, []⟩,
    ⟨1, ⟨(some 22), .op (.load 1 false (.tmp 21)), none⟩, []⟩,
    ⟨2, ⟨(some 23), .op (.mv (.tmp 5)), none⟩, []⟩,
    ⟨3, ⟨(some 24), .op (.iaddrS (.tmp 22) (.tmp 23) 2), none⟩, []⟩,
    ⟨4, ⟨(some 25), .op (.faddr (.tmp 24) 0), none⟩, []⟩,
    ⟨5, ⟨(some 26), .op (.load 1 false (.tmp 25)), none⟩, []⟩,
    ⟨6, ⟨(some 27), .op (.faddr (.tmp 3) 0), none⟩, []⟩,
    ⟨7, ⟨(some 28), .op (.load 1 false (.tmp 27)), none⟩, []⟩,
    ⟨8, ⟨(some 29), .op (.mv (.tmp 5)), none⟩, []⟩,
    ⟨9, ⟨(some 30), .op (.iaddrS (.tmp 28) (.tmp 29) 2), none⟩, []⟩,
    ⟨10, ⟨(some 31), .op (.faddr (.tmp 30) 0), none⟩, []⟩,
    ⟨11, ⟨(some 32), .op (.load 1 false (.tmp 31)), none⟩, []⟩,
    ⟨12, ⟨(some 33), .op (.bin .neq (.tmp 26) (.tmp 32)), none⟩, []⟩,
    ⟨13, ⟨(some 34), .op (.mv (.tmp 33)), none⟩, []⟩,
    ⟨14, ⟨(some 35), .op (.faddr (.tmp 2) 0), some (34, false)⟩, []⟩,
    ⟨15, ⟨(some 36), .op (.load 1 false (.tmp 35)), some (34, false)⟩, []⟩,
    ⟨16, ⟨(some 37), .op (.mv (.tmp 5)), some (34, false)⟩, []⟩,
    ⟨17, ⟨(some 38), .op (.iaddrS (.tmp 36) (.tmp 37) 2), some (34, false)⟩, []⟩,
    ⟨18, ⟨(some 39), .op (.faddr (.tmp 38) 1), some (34, false)⟩, []⟩,
    ⟨19, ⟨(some 40), .op (.load 1 false (.tmp 39)), some (34, false)⟩, []⟩,
    ⟨20, ⟨(some 41), .op (.len false (.tmp 40)), some (34, false)⟩, []⟩,
    ⟨21, ⟨(some 42), .op (.faddr (.tmp 3) 0), some (34, false)⟩, []⟩,
    ⟨22, ⟨(some 43), .op (.load 1 false (.tmp 42)), some (34, false)⟩, []⟩,
    ⟨23, ⟨(some 44), .op (.mv (.tmp 5)), some (34, false)⟩, []⟩,
    ⟨24, ⟨(some 45), .op (.iaddrS (.tmp 43) (.tmp 44) 2), some (34, false)⟩, []⟩,
    ⟨25, ⟨(some 46), .op (.faddr (.tmp 45) 1), some (34, false)⟩, []⟩,
    ⟨26, ⟨(some 47), .op (.load 1 false (.tmp 46)), some (34, false)⟩, []⟩,
    ⟨27, ⟨(some 48), .op (.len false (.tmp 47)), some (34, false)⟩, []⟩,
    ⟨28, ⟨(some 49), .op (.bin .neq (.tmp 41) (.tmp 48)), some (34, false)⟩, []⟩,
    ⟨29, ⟨(some 50), .op (.pick (.tmp 34) (.const (Value.bool true)) (.tmp 49)), none⟩, []⟩]
    [0, 1, 0, 7, 15, 31, 0, 64, 0, 448, 960, 1984, 4095, 8191, 16383, 32767, 16383, 131071, 262143, 524287, 1048575, 16383, 2113535, 16383, 14696447, 31473663, 65028095, 132136959, 268435455, 536870911]) (.kill [21, 22, 23, 24, 25, 26, 27, 28, 29, 30, 31, 32, 33, 34, 35, 36, 37, 38, 39, 40, 41, 42, 43, 44, 45, 46, 47, 48, 49]))
  (.cond (.tmp 50) (.ghost (.kill [2, 3, 5, 50]) (.seq (.reg [⟨(some 4), .op (.mv (.const (Value.bool false))), none⟩])
  .ret))
  (.ghost (.kill [50]) .skip)))
  (.seq (.reg [⟨(some 6), .op (.mv (.const (Value.int .i64 0))), none⟩])
  (.block 2 lo_spec_SameProgram_0))))
  (.ghost (.kill [6]) (.post (.reg [⟨(some 19), .op (.mv (.tmp 5)), none⟩,
    ⟨(some 20), .op (.bin .add (.tmp 19) (.const (Value.int .i64 1))), none⟩,
    ⟨(some 5), .op (.mv (.tmp 20)), none⟩]) (.kill [19, 20])))))
def lo_spec_SameProgram_1 : AC := (.loop lb_spec_SameProgram_1)
def ac_spec_SameProgram : AC := (.seq (.post (.reg [⟨(some 2), .op (.box true (.tmp 0)), none⟩,
    ⟨(some 3), .op (.box true (.tmp 1)), none⟩,
    ⟨(some 4), .op (.mv (.const (Value.bool false))), none⟩]) (.kill [0, 1, 4]))
  (.seq (.seq (.post (.reg [⟨(some 7), .op (.faddr (.tmp 2) 0), none⟩,
    ⟨(some 8), .op (.load 1 false (.tmp 7)), none⟩,
    ⟨(some 9), .op (.len false (.tmp 8)), none⟩,
    ⟨(some 10), .op (.faddr (.tmp 3) 0), none⟩,
    ⟨(some 11), .op (.load 1 false (.tmp 10)), none⟩,
    ⟨(some 12), .op (.len false (.tmp 11)), none⟩,
    ⟨(some 13), .op (.bin .neq (.tmp 9) (.tmp 12)), none⟩]) (.kill [7, 8, 9, 10, 11, 12]))
  (.cond (.tmp 13) (.ghost (.kill [2, 3, 13]) (.seq (.reg [⟨(some 4), .op (.mv (.const (Value.bool false))), none⟩])
  .ret))
  (.ghost (.kill [13]) .skip)))
  (.seq (.seq (.reg [⟨(some 5), .op (.mv (.const (Value.int .i64 0))), none⟩])
  (.block 0 lo_spec_SameProgram_1))
  (.ghost (.kill [2, 3, 5]) (.seq (.reg [⟨(some 4), .op (.mv (.const (Value.bool true))), none⟩])
  .ret)))))
theorem cf_spec_SameProgram : chkFn Try.prog i_spec_SameProgram ac_spec_SameProgram [.tmp 4] 81 = true := by decide +kernel
def fa_spec_SameProgram : FnA := ⟨ac_spec_SameProgram, [.tmp 4], 81, false, true⟩

/-- The checked code of laws toLink. -/
def ac_laws_toLink : AC := (.seq (.post (.reg [⟨(some 1), .op (.box true (.tmp 0)), none⟩,
    ⟨(some 2), .op (.alloc (Value.agg #[Value.int .i64 0, Value.int .i64 0, Value.string ⟨#[]⟩, Value.int .i64 0])), none⟩]) (.kill [0]))
  (.seq (.reg [⟨(some 3), .op (.alloc (Value.agg #[Value.int .i64 0, Value.int .i64 0, Value.string ⟨#[]⟩, Value.int .i64 0])), none⟩])
  (.seq (.post (.reg [⟨(some 4), .op (.faddr (.tmp 1) 0), none⟩,
    ⟨(some 5), .op (.load 1 false (.tmp 4)), none⟩,
    ⟨(some 6), .op (.faddr (.tmp 3) 0), none⟩,
    ⟨none, .op (.store 1 (.tmp 6) (.tmp 5)), none⟩]) (.kill [4, 5, 6]))
  (.seq (.post (.reg [⟨(some 7), .op (.faddr (.tmp 1) 1), none⟩,
    ⟨(some 8), .op (.load 1 false (.tmp 7)), none⟩,
    ⟨(some 9), .op (.faddr (.tmp 3) 1), none⟩,
    ⟨none, .op (.store 1 (.tmp 9) (.tmp 8)), none⟩]) (.kill [7, 8, 9]))
  (.seq (.post (.reg [⟨(some 10), .op (.faddr (.tmp 1) 2), none⟩,
    ⟨(some 11), .op (.load 1 false (.tmp 10)), none⟩,
    ⟨(some 12), .op (.faddr (.tmp 3) 2), none⟩,
    ⟨none, .op (.store 1 (.tmp 12) (.tmp 11)), none⟩]) (.kill [10, 11, 12]))
  (.seq (.post (.reg [⟨(some 13), .op (.faddr (.tmp 1) 3), none⟩,
    ⟨(some 14), .op (.load 1 false (.tmp 13)), none⟩,
    ⟨(some 15), .op (.faddr (.tmp 3) 3), none⟩,
    ⟨none, .op (.store 1 (.tmp 15) (.tmp 14)), none⟩]) (.kill [1, 13, 14, 15]))
  (.seq (.post (.reg [⟨(some 16), .op (.load 4 true (.tmp 3)), none⟩,
    ⟨none, .op (.store 4 (.tmp 2) (.tmp 16)), none⟩]) (.kill [3, 16]))
  .ret)))))))
theorem cf_laws_toLink : chkFn Try.prog i_laws_toLink ac_laws_toLink [.cell 2 4 true] 17 = true := by decide +kernel
def fa_laws_toLink : FnA := ⟨ac_laws_toLink, [.cell 2 4 true], 17, false, true⟩

/-- The checked code of laws toLinkS. -/
def lb_laws_toLinkS_0 : AC := (.post (.seq (.seq (.post (.reg [⟨(some 8), .op (.mv (.tmp 4)), none⟩,
    ⟨(some 9), .op (.mv (.tmp 0)), none⟩,
    ⟨(some 10), .op (.len false (.tmp 9)), none⟩,
    ⟨(some 11), .op (.bin .lss (.tmp 8) (.tmp 10)), none⟩]) (.kill [8, 9, 10]))
  (.cond (.tmp 11) (.ghost (.kill [11]) .skip)
  (.ghost (.kill [0, 4, 11]) (.exit 0))))
  (.seq (.block 1 (.post (.reg [⟨(some 14), .op (.mv (.tmp 3)), none⟩,
    ⟨(some 15), .op (.mv (.tmp 4)), none⟩,
    ⟨(some 16), .op (.mv (.tmp 0)), none⟩,
    ⟨(some 17), .op (.mv (.tmp 4)), none⟩,
    ⟨(some 18), .op (.iaddrS (.tmp 16) (.tmp 17) 4), none⟩,
    ⟨(some 19), .op (.load 4 true (.tmp 18)), none⟩,
    ⟨(some 20), .call (.func i_laws_toLink) [(.tmp 19)], none⟩,
    ⟨(some 21), .op (.iaddrS (.tmp 14) (.tmp 15) 4), none⟩,
    ⟨none, .op (.store 4 (.tmp 21) (.tmp 20)), none⟩]) (.kill [14, 15, 16, 17, 18, 19, 20, 21])))
  (.post (.reg [⟨(some 12), .op (.mv (.tmp 4)), none⟩,
    ⟨(some 13), .op (.bin .add (.tmp 12) (.const (Value.int .i64 1))), none⟩,
    ⟨(some 4), .op (.mv (.tmp 13)), none⟩]) (.kill [12, 13])))) .nv)
def lo_laws_toLinkS_0 : AC := (.loop lb_laws_toLinkS_0)
def ac_laws_toLinkS : AC := (.seq (.post (.reg [⟨(some 2), .op (.mv (.const (Value.slice none 0 0))), none⟩]) (.kill [2]))
  (.seq (.post (.reg [⟨(some 5), .op (.mv (.tmp 0)), none⟩,
    ⟨(some 6), .op (.len false (.tmp 5)), none⟩,
    ⟨(some 7), .op (.make (.tmp 6) (.tmp 6) 4 40 (Value.agg #[Value.int .i64 0, Value.int .i64 0, Value.string ⟨#[]⟩, Value.int .i64 0])), none⟩,
    ⟨(some 3), .op (.mv (.tmp 7)), none⟩]) (.kill [5, 6, 7]))
  (.seq (.seq (.reg [⟨(some 4), .op (.mv (.const (Value.int .i64 0))), none⟩])
  (.post (.block 0 (.ghost .nv lo_laws_toLinkS_0)) .nv))
  (.ghost (.kill [0, 4]) (.seq (.post (.reg [⟨(some 22), .op (.mv (.tmp 3)), none⟩,
    ⟨(some 2), .op (.mv (.tmp 22)), none⟩]) (.kill [3, 22]))
  .ret)))))
theorem cf_laws_toLinkS : chkFn Try.prog i_laws_toLinkS ac_laws_toLinkS [.tmp 2] 23 = true := by decide +kernel
def fa_laws_toLinkS : FnA := ⟨ac_laws_toLinkS, [.tmp 2], 23, false, true⟩

/-- The checked code of laws toModule. -/
def ac_laws_toModule : AC := (.seq (.post (.reg [⟨(some 1), .op (.box true (.tmp 0)), none⟩,
    ⟨(some 2), .op (.alloc (Value.agg #[Value.int .i64 0, Value.slice none 0 0])), none⟩]) (.kill [0]))
  (.seq (.reg [⟨(some 3), .op (.alloc (Value.agg #[Value.int .i64 0, Value.slice none 0 0])), none⟩])
  (.seq (.post (.reg [⟨(some 4), .op (.faddr (.tmp 1) 0), none⟩,
    ⟨(some 5), .op (.load 1 false (.tmp 4)), none⟩,
    ⟨(some 6), .op (.faddr (.tmp 3) 0), none⟩,
    ⟨none, .op (.store 1 (.tmp 6) (.tmp 5)), none⟩]) (.kill [4, 5, 6]))
  (.seq (.post (.reg [⟨(some 7), .op (.faddr (.tmp 1) 1), none⟩,
    ⟨(some 8), .op (.load 1 false (.tmp 7)), none⟩,
    ⟨(some 9), .call (.func i_laws_toLinkS) [(.tmp 8)], none⟩,
    ⟨(some 10), .op (.faddr (.tmp 3) 1), none⟩,
    ⟨none, .op (.store 1 (.tmp 10) (.tmp 9)), none⟩]) (.kill [1, 7, 8, 9, 10]))
  (.seq (.post (.reg [⟨(some 11), .op (.load 2 true (.tmp 3)), none⟩,
    ⟨none, .op (.store 2 (.tmp 2) (.tmp 11)), none⟩]) (.kill [3, 11]))
  .ret)))))
theorem cf_laws_toModule : chkFn Try.prog i_laws_toModule ac_laws_toModule [.cell 2 2 true] 12 = true := by decide +kernel
def fa_laws_toModule : FnA := ⟨ac_laws_toModule, [.cell 2 2 true], 12, false, true⟩

/-- The checked code of laws toModuleS. -/
def lb_laws_toModuleS_0 : AC := (.post (.seq (.seq (.post (.reg [⟨(some 8), .op (.mv (.tmp 4)), none⟩,
    ⟨(some 9), .op (.mv (.tmp 0)), none⟩,
    ⟨(some 10), .op (.len false (.tmp 9)), none⟩,
    ⟨(some 11), .op (.bin .lss (.tmp 8) (.tmp 10)), none⟩]) (.kill [8, 9, 10]))
  (.cond (.tmp 11) (.ghost (.kill [11]) .skip)
  (.ghost (.kill [0, 4, 11]) (.exit 0))))
  (.seq (.block 1 (.post (.reg [⟨(some 14), .op (.mv (.tmp 3)), none⟩,
    ⟨(some 15), .op (.mv (.tmp 4)), none⟩,
    ⟨(some 16), .op (.mv (.tmp 0)), none⟩,
    ⟨(some 17), .op (.mv (.tmp 4)), none⟩,
    ⟨(some 18), .op (.iaddrS (.tmp 16) (.tmp 17) 2), none⟩,
    ⟨(some 19), .op (.load 2 true (.tmp 18)), none⟩,
    ⟨(some 20), .call (.func i_laws_toModule) [(.tmp 19)], none⟩,
    ⟨(some 21), .op (.iaddrS (.tmp 14) (.tmp 15) 2), none⟩,
    ⟨none, .op (.store 2 (.tmp 21) (.tmp 20)), none⟩]) (.kill [14, 15, 16, 17, 18, 19, 20, 21])))
  (.post (.reg [⟨(some 12), .op (.mv (.tmp 4)), none⟩,
    ⟨(some 13), .op (.bin .add (.tmp 12) (.const (Value.int .i64 1))), none⟩,
    ⟨(some 4), .op (.mv (.tmp 13)), none⟩]) (.kill [12, 13])))) .nv)
def lo_laws_toModuleS_0 : AC := (.loop lb_laws_toModuleS_0)
def ac_laws_toModuleS : AC := (.seq (.post (.reg [⟨(some 2), .op (.mv (.const (Value.slice none 0 0))), none⟩]) (.kill [2]))
  (.seq (.post (.reg [⟨(some 5), .op (.mv (.tmp 0)), none⟩,
    ⟨(some 6), .op (.len false (.tmp 5)), none⟩,
    ⟨(some 7), .op (.make (.tmp 6) (.tmp 6) 2 32 (Value.agg #[Value.int .i64 0, Value.slice none 0 0])), none⟩,
    ⟨(some 3), .op (.mv (.tmp 7)), none⟩]) (.kill [5, 6, 7]))
  (.seq (.seq (.reg [⟨(some 4), .op (.mv (.const (Value.int .i64 0))), none⟩])
  (.post (.block 0 (.ghost .nv lo_laws_toModuleS_0)) .nv))
  (.ghost (.kill [0, 4]) (.seq (.post (.reg [⟨(some 22), .op (.mv (.tmp 3)), none⟩,
    ⟨(some 2), .op (.mv (.tmp 22)), none⟩]) (.kill [3, 22]))
  .ret)))))
theorem cf_laws_toModuleS : chkFn Try.prog i_laws_toModuleS ac_laws_toModuleS [.tmp 2] 23 = true := by decide +kernel
def fa_laws_toModuleS : FnA := ⟨ac_laws_toModuleS, [.tmp 2], 23, false, true⟩

/-- The checked code of laws toProgram. -/
def ac_laws_toProgram : AC := (.seq (.post (.reg [⟨(some 1), .op (.box true (.tmp 0)), none⟩,
    ⟨(some 2), .op (.alloc (Value.agg #[Value.slice none 0 0])), none⟩]) (.kill [0]))
  (.seq (.reg [⟨(some 3), .op (.alloc (Value.agg #[Value.slice none 0 0])), none⟩])
  (.seq (.post (.reg [⟨(some 4), .op (.faddr (.tmp 1) 0), none⟩,
    ⟨(some 5), .op (.load 1 false (.tmp 4)), none⟩,
    ⟨(some 6), .call (.func i_laws_toModuleS) [(.tmp 5)], none⟩,
    ⟨(some 7), .op (.faddr (.tmp 3) 0), none⟩,
    ⟨none, .op (.store 1 (.tmp 7) (.tmp 6)), none⟩]) (.kill [1, 4, 5, 6, 7]))
  (.seq (.post (.reg [⟨(some 8), .op (.load 1 true (.tmp 3)), none⟩,
    ⟨none, .op (.store 1 (.tmp 2) (.tmp 8)), none⟩]) (.kill [3, 8]))
  .ret))))
theorem cf_laws_toProgram : chkFn Try.prog i_laws_toProgram ac_laws_toProgram [.cell 2 1 true] 9 = true := by decide +kernel
def fa_laws_toProgram : FnA := ⟨ac_laws_toProgram, [.cell 2 1 true], 9, false, true⟩

/-- The checked code of impl Module . -/
def lb_slices_EqualFunc_L_impl_Module_0 : AC := (.post (.seq (.reg [⟨(some 18), .op (.bin .lss (.tmp 17) (.tmp 16)), none⟩])
  (.seq (.cond (.tmp 18) (.ghost (.kill [18]) .skip)
  (.ghost (.kill [1, 2, 15, 16, 17, 18]) (.exit 0)))
  (.seq (.block 1 (.seq (.post (.reg [⟨(some 19), .op (.mv (.tmp 17)), none⟩,
    ⟨(some 20), .op (.iaddrS (.tmp 15) (.tmp 17) 2), none⟩,
    ⟨(some 21), .op (.load 2 true (.tmp 20)), none⟩,
    ⟨(some 8), .op (.alloc (Value.agg #[Value.int .i64 0, Value.slice none 0 0])), none⟩,
    ⟨(some 7), .op (.mv (.tmp 19)), none⟩,
    ⟨none, .op (.store 2 (.tmp 8) (.tmp 21)), none⟩]) (.kill [19, 20, 21]))
  (.seq (.post (.reg [⟨(some 22), .op (.mv (.tmp 1)), none⟩,
    ⟨(some 23), .op (.mv (.tmp 7)), none⟩,
    ⟨(some 24), .op (.iaddrS (.tmp 22) (.tmp 23) 2), none⟩,
    ⟨(some 25), .op (.load 2 true (.tmp 24)), none⟩,
    ⟨(some 9), .op (.alloc (Value.agg #[Value.int .i64 0, Value.slice none 0 0])), none⟩,
    ⟨none, .op (.store 2 (.tmp 9) (.tmp 25)), none⟩]) (.kill [7, 22, 23, 24, 25]))
  (.seq (.post (.reg [⟨(some 26), .op (.mv (.tmp 2)), none⟩,
    ⟨(some 27), .op (.load 2 true (.tmp 8)), none⟩,
    ⟨(some 28), .op (.load 2 true (.tmp 9)), none⟩,
    ⟨(some 29), .call (.tmp 26) [(.tmp 27), (.tmp 28)], none⟩,
    ⟨(some 30), .op (.un .not (.tmp 29)), none⟩]) (.kill [8, 9, 26, 27, 28, 29]))
  (.cond (.tmp 30) (.ghost (.kill [1, 2, 15, 16, 17, 30]) (.seq (.reg [⟨(some 6), .op (.mv (.const (Value.bool false))), none⟩])
  .ret))
  (.ghost (.kill [30]) .skip))))))
  (.post (.reg [⟨(some 31), .op (.bin .add (.tmp 17) (.const (Value.int .i64 1))), none⟩,
    ⟨(some 17), .op (.mv (.tmp 31)), none⟩]) (.kill [31]))))) .nv)
def lo_slices_EqualFunc_L_impl_Module_0 : AC := (.loop lb_slices_EqualFunc_L_impl_Module_0)
def ac_slices_EqualFunc_L_impl_Module : AC := (.seq (.post (.reg [⟨(some 6), .op (.mv (.const (Value.bool false))), none⟩]) (.kill [6]))
  (.seq (.seq (.post (.reg [⟨(some 10), .op (.mv (.tmp 0)), none⟩,
    ⟨(some 11), .op (.len false (.tmp 10)), none⟩,
    ⟨(some 12), .op (.mv (.tmp 1)), none⟩,
    ⟨(some 13), .op (.len false (.tmp 12)), none⟩,
    ⟨(some 14), .op (.bin .neq (.tmp 11) (.tmp 13)), none⟩]) (.kill [10, 11, 12, 13]))
  (.cond (.tmp 14) (.ghost (.kill [0, 1, 2, 14]) (.seq (.reg [⟨(some 6), .op (.mv (.const (Value.bool false))), none⟩])
  .ret))
  (.ghost (.kill [14]) .skip)))
  (.seq (.seq (.post (.reg [⟨(some 15), .op (.mv (.tmp 0)), none⟩,
    ⟨(some 16), .op (.len false (.tmp 15)), none⟩,
    ⟨(some 17), .op (.mv (.const (Value.int .i64 0))), none⟩]) (.kill [0]))
  (.post (.block 0 (.ghost .nv lo_slices_EqualFunc_L_impl_Module_0)) .nv))
  (.ghost (.kill [1, 2, 15, 16, 17]) (.seq (.reg [⟨(some 6), .op (.mv (.const (Value.bool true))), none⟩])
  .ret)))))
theorem cf_slices_EqualFunc_L_impl_Module : chkFn Try.prog i_slices_EqualFunc_L_impl_Module ac_slices_EqualFunc_L_impl_Module [.tmp 6] 32 = true := by decide +kernel
def fa_slices_EqualFunc_L_impl_Module : FnA := ⟨ac_slices_EqualFunc_L_impl_Module, [.tmp 6], 32, false, true⟩

/-- The checked code of impl Link . -/
def lb_slices_Equal_L_impl_Link_0 : AC := (.seq (.reg [⟨(some 14), .op (.bin .lss (.tmp 13) (.tmp 12)), none⟩])
  (.seq (.cond (.tmp 14) (.ghost (.kill [14]) .skip)
  (.ghost (.kill [0, 1, 12, 13, 14]) (.exit 0)))
  (.seq (.block 1 (.seq (.post (.reg [⟨(some 15), .op (.mv (.tmp 13)), none⟩,
    ⟨(some 5), .op (.mv (.tmp 15)), none⟩]) (.kill [15]))
  (.seq (.post (.draw [⟨0, ⟨(some 16), .op (.mv (.tmp 0)), none⟩, []⟩,
    ⟨1, ⟨(some 17), .op (.mv (.tmp 5)), none⟩, []⟩,
    ⟨2, ⟨(some 18), .op (.iaddrS (.tmp 16) (.tmp 17) 4), none⟩, []⟩,
    ⟨3, ⟨(some 19), .op (.load 4 true (.tmp 18)), none⟩, []⟩,
    ⟨4, ⟨(some 20), .op (.mv (.tmp 1)), none⟩, []⟩,
    ⟨5, ⟨(some 21), .op (.mv (.tmp 5)), none⟩, []⟩,
    ⟨6, ⟨(some 22), .op (.iaddrS (.tmp 20) (.tmp 21) 4), none⟩, []⟩,
    ⟨7, ⟨(some 23), .op (.load 4 true (.tmp 22)), none⟩, []⟩,
    ⟨8, ⟨(some 24), .op (.eqst true [(.i .i64), (.i .i64), .s, (.i .i64)] (.tmp 19) (.tmp 23)), none⟩, []⟩]
    [0, 0, 3, 7, 0, 0, 48, 112, 255]) (.kill [5, 16, 17, 18, 19, 20, 21, 22, 23]))
  (.cond (.tmp 24) (.ghost (.kill [0, 1, 12, 13, 24]) (.seq (.reg [⟨(some 4), .op (.mv (.const (Value.bool false))), none⟩])
  .ret))
  (.ghost (.kill [24]) .skip)))))
  (.post (.reg [⟨(some 25), .op (.bin .add (.tmp 13) (.const (Value.int .i64 1))), none⟩,
    ⟨(some 13), .op (.mv (.tmp 25)), none⟩]) (.kill [25])))))
def lo_slices_Equal_L_impl_Link_0 : AC := (.loop lb_slices_Equal_L_impl_Link_0)
def ac_slices_Equal_L_impl_Link : AC := (.seq (.post (.reg [⟨(some 4), .op (.mv (.const (Value.bool false))), none⟩]) (.kill [4]))
  (.seq (.seq (.post (.reg [⟨(some 6), .op (.mv (.tmp 0)), none⟩,
    ⟨(some 7), .op (.len false (.tmp 6)), none⟩,
    ⟨(some 8), .op (.mv (.tmp 1)), none⟩,
    ⟨(some 9), .op (.len false (.tmp 8)), none⟩,
    ⟨(some 10), .op (.bin .neq (.tmp 7) (.tmp 9)), none⟩]) (.kill [6, 7, 8, 9]))
  (.cond (.tmp 10) (.ghost (.kill [0, 1, 10]) (.seq (.reg [⟨(some 4), .op (.mv (.const (Value.bool false))), none⟩])
  .ret))
  (.ghost (.kill [10]) .skip)))
  (.seq (.seq (.post (.reg [⟨(some 11), .op (.mv (.tmp 0)), none⟩,
    ⟨(some 12), .op (.len false (.tmp 11)), none⟩,
    ⟨(some 13), .op (.mv (.const (Value.int .i64 0))), none⟩]) (.kill [11]))
  (.block 0 lo_slices_Equal_L_impl_Link_0))
  (.ghost (.kill [0, 1, 12, 13]) (.seq (.reg [⟨(some 4), .op (.mv (.const (Value.bool true))), none⟩])
  .ret)))))
theorem cf_slices_Equal_L_impl_Link : chkFn Try.prog i_slices_Equal_L_impl_Link ac_slices_Equal_L_impl_Link [.tmp 4] 26 = true := by decide +kernel
def fa_slices_Equal_L_impl_Link : FnA := ⟨ac_slices_Equal_L_impl_Link, [.tmp 4], 26, false, true⟩

/-- The checked code of impl SameProgram 1. -/
def ac_impl_SameProgram_1 : AC := (.seq (.post (.reg [⟨(some 2), .op (.box true (.tmp 0)), none⟩,
    ⟨(some 3), .op (.box true (.tmp 1)), none⟩,
    ⟨(some 4), .op (.mv (.const (Value.bool false))), none⟩]) (.kill [0, 1, 4]))
  (.seq (.post (.reg [⟨(some 5), .op (.faddr (.tmp 2) 0), none⟩,
    ⟨(some 6), .op (.load 1 false (.tmp 5)), none⟩,
    ⟨(some 7), .op (.faddr (.tmp 3) 0), none⟩,
    ⟨(some 8), .op (.load 1 false (.tmp 7)), none⟩,
    ⟨(some 9), .op (.bin .eql (.tmp 6) (.tmp 8)), none⟩,
    ⟨(some 10), .op (.mv (.tmp 9)), none⟩,
    ⟨(some 11), .op (.faddr (.tmp 2) 1), some (10, true)⟩,
    ⟨(some 12), .op (.load 1 false (.tmp 11)), some (10, true)⟩,
    ⟨(some 13), .op (.faddr (.tmp 3) 1), some (10, true)⟩,
    ⟨(some 14), .op (.load 1 false (.tmp 13)), some (10, true)⟩,
    ⟨(some 15), .call (.func i_slices_Equal_L_impl_Link) [(.tmp 12), (.tmp 14)], some (10, true)⟩,
    ⟨(some 16), .op (.pick (.tmp 10) (.tmp 15) (.const (Value.bool false))), none⟩,
    ⟨(some 4), .op (.mv (.tmp 16)), none⟩]) (.kill [2, 3, 5, 6, 7, 8, 9, 10, 11, 12, 13, 14, 15, 16]))
  .ret))
theorem cf_impl_SameProgram_1 : chkFn Try.prog i_impl_SameProgram_1 ac_impl_SameProgram_1 [.tmp 4] 17 = true := by decide +kernel
def fa_impl_SameProgram_1 : FnA := ⟨ac_impl_SameProgram_1, [.tmp 4], 17, false, true⟩

/-- The checked code of impl SameProgram. -/
def ac_impl_SameProgram : AC := (.seq (.post (.reg [⟨(some 2), .op (.box true (.tmp 0)), none⟩,
    ⟨(some 3), .op (.box true (.tmp 1)), none⟩,
    ⟨(some 4), .op (.mv (.const (Value.bool false))), none⟩]) (.kill [0, 1, 4]))
  (.seq (.post (.reg [⟨(some 5), .op (.faddr (.tmp 2) 0), none⟩,
    ⟨(some 6), .op (.load 1 false (.tmp 5)), none⟩,
    ⟨(some 7), .op (.faddr (.tmp 3) 0), none⟩,
    ⟨(some 8), .op (.load 1 false (.tmp 7)), none⟩,
    ⟨(some 9), .call (.func i_slices_EqualFunc_L_impl_Module) [(.tmp 6), (.tmp 8), (.func i_impl_SameProgram_1)], none⟩,
    ⟨(some 4), .op (.mv (.tmp 9)), none⟩]) (.kill [2, 3, 5, 6, 7, 8, 9]))
  .ret))
theorem cf_impl_SameProgram : chkFn Try.prog i_impl_SameProgram ac_impl_SameProgram [.tmp 4] 10 = true := by decide +kernel
def fa_impl_SameProgram : FnA := ⟨ac_impl_SameProgram, [.tmp 4], 10, false, true⟩

/-- The checked code of laws eqLink. -/
def ac_laws_eqLink : AC := (.seq (.post (.reg [⟨(some 2), .op (.box true (.tmp 0)), none⟩,
    ⟨(some 3), .op (.box true (.tmp 1)), none⟩,
    ⟨(some 4), .op (.mv (.const (Value.bool false))), none⟩]) (.kill [0, 1, 4]))
  (.seq (.seq (.post (.reg [⟨(some 5), .op (.faddr (.tmp 2) 0), none⟩,
    ⟨(some 6), .op (.load 1 false (.tmp 5)), none⟩,
    ⟨(some 7), .op (.faddr (.tmp 3) 0), none⟩,
    ⟨(some 8), .op (.load 1 false (.tmp 7)), none⟩,
    ⟨(some 9), .op (.bin .neq (.tmp 6) (.tmp 8)), none⟩]) (.kill [5, 6, 7, 8]))
  (.cond (.tmp 9) (.ghost (.kill [2, 3, 9]) (.seq (.reg [⟨(some 4), .op (.mv (.const (Value.bool false))), none⟩])
  .ret))
  (.ghost (.kill [9]) .skip)))
  (.seq (.seq (.post (.reg [⟨(some 10), .op (.faddr (.tmp 2) 1), none⟩,
    ⟨(some 11), .op (.load 1 false (.tmp 10)), none⟩,
    ⟨(some 12), .op (.faddr (.tmp 3) 1), none⟩,
    ⟨(some 13), .op (.load 1 false (.tmp 12)), none⟩,
    ⟨(some 14), .op (.bin .neq (.tmp 11) (.tmp 13)), none⟩]) (.kill [10, 11, 12, 13]))
  (.cond (.tmp 14) (.ghost (.kill [2, 3, 14]) (.seq (.reg [⟨(some 4), .op (.mv (.const (Value.bool false))), none⟩])
  .ret))
  (.ghost (.kill [14]) .skip)))
  (.seq (.seq (.post (.reg [⟨(some 15), .op (.faddr (.tmp 2) 2), none⟩,
    ⟨(some 16), .op (.load 1 false (.tmp 15)), none⟩,
    ⟨(some 17), .op (.faddr (.tmp 3) 2), none⟩,
    ⟨(some 18), .op (.load 1 false (.tmp 17)), none⟩,
    ⟨(some 19), .op (.bin .neq (.tmp 16) (.tmp 18)), none⟩]) (.kill [15, 16, 17, 18]))
  (.cond (.tmp 19) (.ghost (.kill [2, 3, 19]) (.seq (.reg [⟨(some 4), .op (.mv (.const (Value.bool false))), none⟩])
  .ret))
  (.ghost (.kill [19]) .skip)))
  (.seq (.seq (.post (.reg [⟨(some 20), .op (.faddr (.tmp 2) 3), none⟩,
    ⟨(some 21), .op (.load 1 false (.tmp 20)), none⟩,
    ⟨(some 22), .op (.faddr (.tmp 3) 3), none⟩,
    ⟨(some 23), .op (.load 1 false (.tmp 22)), none⟩,
    ⟨(some 24), .op (.bin .neq (.tmp 21) (.tmp 23)), none⟩]) (.kill [2, 3, 20, 21, 22, 23]))
  (.cond (.tmp 24) (.ghost (.kill [24]) (.seq (.reg [⟨(some 4), .op (.mv (.const (Value.bool false))), none⟩])
  .ret))
  (.ghost (.kill [24]) .skip)))
  (.seq (.reg [⟨(some 4), .op (.mv (.const (Value.bool true))), none⟩])
  .ret))))))
theorem cf_laws_eqLink : chkFn Try.prog i_laws_eqLink ac_laws_eqLink [.tmp 4] 25 = true := by decide +kernel
def fa_laws_eqLink : FnA := ⟨ac_laws_eqLink, [.tmp 4], 25, false, true⟩

/-- The checked code of laws eqLinkS. -/
def lb_laws_eqLinkS_0 : AC := (.seq (.seq (.post (.reg [⟨(some 11), .op (.mv (.tmp 5)), none⟩,
    ⟨(some 12), .op (.mv (.tmp 0)), none⟩,
    ⟨(some 13), .op (.len false (.tmp 12)), none⟩,
    ⟨(some 14), .op (.bin .lss (.tmp 11) (.tmp 13)), none⟩]) (.kill [11, 12, 13]))
  (.cond (.tmp 14) (.ghost (.kill [14]) .skip)
  (.ghost (.kill [0, 1, 5, 14]) (.exit 0))))
  (.seq (.block 1 (.seq (.post (.draw [⟨0, ⟨(some 17), .op (.mv (.tmp 0)), none⟩, []⟩,
    ⟨1, ⟨(some 18), .op (.mv (.tmp 5)), none⟩, []⟩,
    ⟨2, ⟨(some 19), .op (.iaddrS (.tmp 17) (.tmp 18) 4), none⟩, []⟩,
    ⟨3, ⟨(some 20), .op (.load 4 true (.tmp 19)), none⟩, []⟩,
    ⟨4, ⟨(some 21), .op (.mv (.tmp 1)), none⟩, []⟩,
    ⟨5, ⟨(some 22), .op (.mv (.tmp 5)), none⟩, []⟩,
    ⟨6, ⟨(some 23), .op (.iaddrS (.tmp 21) (.tmp 22) 4), none⟩, []⟩,
    ⟨7, ⟨(some 24), .op (.load 4 true (.tmp 23)), none⟩, []⟩,
    ⟨8, ⟨(some 25), .call (.func i_laws_eqLink) [(.tmp 20), (.tmp 24)], none⟩, []⟩,
    ⟨9, ⟨(some 26), .op (.un .not (.tmp 25)), none⟩, []⟩]
    [0, 0, 3, 7, 0, 0, 48, 112, 255, 511]) (.kill [17, 18, 19, 20, 21, 22, 23, 24, 25]))
  (.cond (.tmp 26) (.ghost (.kill [0, 1, 5, 26]) (.seq (.reg [⟨(some 4), .op (.mv (.const (Value.bool false))), none⟩])
  .ret))
  (.ghost (.kill [26]) .skip))))
  (.post (.reg [⟨(some 15), .op (.mv (.tmp 5)), none⟩,
    ⟨(some 16), .op (.bin .add (.tmp 15) (.const (Value.int .i64 1))), none⟩,
    ⟨(some 5), .op (.mv (.tmp 16)), none⟩]) (.kill [15, 16]))))
def lo_laws_eqLinkS_0 : AC := (.loop lb_laws_eqLinkS_0)
def ac_laws_eqLinkS : AC := (.seq (.post (.reg [⟨(some 4), .op (.mv (.const (Value.bool false))), none⟩]) (.kill [4]))
  (.seq (.seq (.post (.reg [⟨(some 6), .op (.mv (.tmp 0)), none⟩,
    ⟨(some 7), .op (.len false (.tmp 6)), none⟩,
    ⟨(some 8), .op (.mv (.tmp 1)), none⟩,
    ⟨(some 9), .op (.len false (.tmp 8)), none⟩,
    ⟨(some 10), .op (.bin .neq (.tmp 7) (.tmp 9)), none⟩]) (.kill [6, 7, 8, 9]))
  (.cond (.tmp 10) (.ghost (.kill [0, 1, 10]) (.seq (.reg [⟨(some 4), .op (.mv (.const (Value.bool false))), none⟩])
  .ret))
  (.ghost (.kill [10]) .skip)))
  (.seq (.seq (.reg [⟨(some 5), .op (.mv (.const (Value.int .i64 0))), none⟩])
  (.block 0 lo_laws_eqLinkS_0))
  (.ghost (.kill [0, 1, 5]) (.seq (.reg [⟨(some 4), .op (.mv (.const (Value.bool true))), none⟩])
  .ret)))))
theorem cf_laws_eqLinkS : chkFn Try.prog i_laws_eqLinkS ac_laws_eqLinkS [.tmp 4] 27 = true := by decide +kernel
def fa_laws_eqLinkS : FnA := ⟨ac_laws_eqLinkS, [.tmp 4], 27, false, true⟩

/-- The checked code of laws eqModule. -/
def ac_laws_eqModule : AC := (.seq (.post (.reg [⟨(some 2), .op (.box true (.tmp 0)), none⟩,
    ⟨(some 3), .op (.box true (.tmp 1)), none⟩,
    ⟨(some 4), .op (.mv (.const (Value.bool false))), none⟩]) (.kill [0, 1, 4]))
  (.seq (.seq (.post (.reg [⟨(some 5), .op (.faddr (.tmp 2) 0), none⟩,
    ⟨(some 6), .op (.load 1 false (.tmp 5)), none⟩,
    ⟨(some 7), .op (.faddr (.tmp 3) 0), none⟩,
    ⟨(some 8), .op (.load 1 false (.tmp 7)), none⟩,
    ⟨(some 9), .op (.bin .neq (.tmp 6) (.tmp 8)), none⟩]) (.kill [5, 6, 7, 8]))
  (.cond (.tmp 9) (.ghost (.kill [2, 3, 9]) (.seq (.reg [⟨(some 4), .op (.mv (.const (Value.bool false))), none⟩])
  .ret))
  (.ghost (.kill [9]) .skip)))
  (.seq (.seq (.post (.reg [⟨(some 10), .op (.faddr (.tmp 2) 1), none⟩,
    ⟨(some 11), .op (.load 1 false (.tmp 10)), none⟩,
    ⟨(some 12), .op (.faddr (.tmp 3) 1), none⟩,
    ⟨(some 13), .op (.load 1 false (.tmp 12)), none⟩,
    ⟨(some 14), .call (.func i_laws_eqLinkS) [(.tmp 11), (.tmp 13)], none⟩,
    ⟨(some 15), .op (.un .not (.tmp 14)), none⟩]) (.kill [2, 3, 10, 11, 12, 13, 14]))
  (.cond (.tmp 15) (.ghost (.kill [15]) (.seq (.reg [⟨(some 4), .op (.mv (.const (Value.bool false))), none⟩])
  .ret))
  (.ghost (.kill [15]) .skip)))
  (.seq (.reg [⟨(some 4), .op (.mv (.const (Value.bool true))), none⟩])
  .ret))))
theorem cf_laws_eqModule : chkFn Try.prog i_laws_eqModule ac_laws_eqModule [.tmp 4] 16 = true := by decide +kernel
def fa_laws_eqModule : FnA := ⟨ac_laws_eqModule, [.tmp 4], 16, false, true⟩

/-- The checked code of laws eqModuleS. -/
def lb_laws_eqModuleS_0 : AC := (.seq (.seq (.post (.reg [⟨(some 11), .op (.mv (.tmp 5)), none⟩,
    ⟨(some 12), .op (.mv (.tmp 0)), none⟩,
    ⟨(some 13), .op (.len false (.tmp 12)), none⟩,
    ⟨(some 14), .op (.bin .lss (.tmp 11) (.tmp 13)), none⟩]) (.kill [11, 12, 13]))
  (.cond (.tmp 14) (.ghost (.kill [14]) .skip)
  (.ghost (.kill [0, 1, 5, 14]) (.exit 0))))
  (.seq (.block 1 (.seq (.post (.draw [⟨0, ⟨(some 17), .op (.mv (.tmp 0)), none⟩, []⟩,
    ⟨1, ⟨(some 18), .op (.mv (.tmp 5)), none⟩, []⟩,
    ⟨2, ⟨(some 19), .op (.iaddrS (.tmp 17) (.tmp 18) 2), none⟩, []⟩,
    ⟨3, ⟨(some 20), .op (.load 2 true (.tmp 19)), none⟩, []⟩,
    ⟨4, ⟨(some 21), .op (.mv (.tmp 1)), none⟩, []⟩,
    ⟨5, ⟨(some 22), .op (.mv (.tmp 5)), none⟩, []⟩,
    ⟨6, ⟨(some 23), .op (.iaddrS (.tmp 21) (.tmp 22) 2), none⟩, []⟩,
    ⟨7, ⟨(some 24), .op (.load 2 true (.tmp 23)), none⟩, []⟩,
    ⟨8, ⟨(some 25), .call (.func i_laws_eqModule) [(.tmp 20), (.tmp 24)], none⟩, []⟩,
    ⟨9, ⟨(some 26), .op (.un .not (.tmp 25)), none⟩, []⟩]
    [0, 0, 3, 7, 0, 0, 48, 112, 255, 511]) (.kill [17, 18, 19, 20, 21, 22, 23, 24, 25]))
  (.cond (.tmp 26) (.ghost (.kill [0, 1, 5, 26]) (.seq (.reg [⟨(some 4), .op (.mv (.const (Value.bool false))), none⟩])
  .ret))
  (.ghost (.kill [26]) .skip))))
  (.post (.reg [⟨(some 15), .op (.mv (.tmp 5)), none⟩,
    ⟨(some 16), .op (.bin .add (.tmp 15) (.const (Value.int .i64 1))), none⟩,
    ⟨(some 5), .op (.mv (.tmp 16)), none⟩]) (.kill [15, 16]))))
def lo_laws_eqModuleS_0 : AC := (.loop lb_laws_eqModuleS_0)
def ac_laws_eqModuleS : AC := (.seq (.post (.reg [⟨(some 4), .op (.mv (.const (Value.bool false))), none⟩]) (.kill [4]))
  (.seq (.seq (.post (.reg [⟨(some 6), .op (.mv (.tmp 0)), none⟩,
    ⟨(some 7), .op (.len false (.tmp 6)), none⟩,
    ⟨(some 8), .op (.mv (.tmp 1)), none⟩,
    ⟨(some 9), .op (.len false (.tmp 8)), none⟩,
    ⟨(some 10), .op (.bin .neq (.tmp 7) (.tmp 9)), none⟩]) (.kill [6, 7, 8, 9]))
  (.cond (.tmp 10) (.ghost (.kill [0, 1, 10]) (.seq (.reg [⟨(some 4), .op (.mv (.const (Value.bool false))), none⟩])
  .ret))
  (.ghost (.kill [10]) .skip)))
  (.seq (.seq (.reg [⟨(some 5), .op (.mv (.const (Value.int .i64 0))), none⟩])
  (.block 0 lo_laws_eqModuleS_0))
  (.ghost (.kill [0, 1, 5]) (.seq (.reg [⟨(some 4), .op (.mv (.const (Value.bool true))), none⟩])
  .ret)))))
theorem cf_laws_eqModuleS : chkFn Try.prog i_laws_eqModuleS ac_laws_eqModuleS [.tmp 4] 27 = true := by decide +kernel
def fa_laws_eqModuleS : FnA := ⟨ac_laws_eqModuleS, [.tmp 4], 27, false, true⟩

/-- The checked code of laws eqProgram. -/
def ac_laws_eqProgram : AC := (.seq (.post (.reg [⟨(some 2), .op (.box true (.tmp 0)), none⟩,
    ⟨(some 3), .op (.box true (.tmp 1)), none⟩,
    ⟨(some 4), .op (.mv (.const (Value.bool false))), none⟩]) (.kill [0, 1, 4]))
  (.seq (.seq (.post (.reg [⟨(some 5), .op (.faddr (.tmp 2) 0), none⟩,
    ⟨(some 6), .op (.load 1 false (.tmp 5)), none⟩,
    ⟨(some 7), .op (.faddr (.tmp 3) 0), none⟩,
    ⟨(some 8), .op (.load 1 false (.tmp 7)), none⟩,
    ⟨(some 9), .call (.func i_laws_eqModuleS) [(.tmp 6), (.tmp 8)], none⟩,
    ⟨(some 10), .op (.un .not (.tmp 9)), none⟩]) (.kill [2, 3, 5, 6, 7, 8, 9]))
  (.cond (.tmp 10) (.ghost (.kill [10]) (.seq (.reg [⟨(some 4), .op (.mv (.const (Value.bool false))), none⟩])
  .ret))
  (.ghost (.kill [10]) .skip)))
  (.seq (.reg [⟨(some 4), .op (.mv (.const (Value.bool true))), none⟩])
  .ret)))
theorem cf_laws_eqProgram : chkFn Try.prog i_laws_eqProgram ac_laws_eqProgram [.tmp 4] 11 = true := by decide +kernel
def fa_laws_eqProgram : FnA := ⟨ac_laws_eqProgram, [.tmp 4], 11, false, true⟩

/-- The checked code of laws FnExactSameProgram. -/
def ac_laws_FnExactSameProgram : AC := (.seq (.post (.reg [⟨(some 2), .op (.box true (.tmp 0)), none⟩,
    ⟨(some 3), .op (.box true (.tmp 1)), none⟩,
    ⟨(some 4), .op (.mv (.const (Value.bool false))), none⟩]) (.kill [0, 1, 4]))
  (.seq (.reg [⟨(some 5), .op (.mv (.const (Value.int .i64 1048576))), none⟩])
  (.seq (.post (.reg [⟨(some 10), .op (.load 1 true (.tmp 2)), none⟩,
    ⟨(some 11), .op (.mv (.tmp 5)), none⟩,
    ⟨(some 12), .call (.func i_laws_szProgram) [(.tmp 10), (.tmp 11)], none⟩,
    ⟨(some 5), .op (.mv (.tmp 12)), none⟩]) (.kill [10, 11, 12]))
  (.seq (.seq (.post (.reg [⟨(some 13), .op (.mv (.tmp 5)), none⟩,
    ⟨(some 14), .op (.bin .lss (.tmp 13) (.const (Value.int .i64 0))), none⟩]) (.kill [13]))
  (.cond (.tmp 14) (.ghost (.kill [2, 3, 5, 14]) (.seq (.reg [⟨(some 4), .op (.mv (.const (Value.bool true))), none⟩])
  .ret))
  (.ghost (.kill [14]) .skip)))
  (.seq (.post (.reg [⟨(some 15), .op (.load 1 true (.tmp 3)), none⟩,
    ⟨(some 16), .op (.mv (.tmp 5)), none⟩,
    ⟨(some 17), .call (.func i_laws_szProgram) [(.tmp 15), (.tmp 16)], none⟩,
    ⟨(some 5), .op (.mv (.tmp 17)), none⟩]) (.kill [15, 16, 17]))
  (.seq (.seq (.post (.reg [⟨(some 18), .op (.mv (.tmp 5)), none⟩,
    ⟨(some 19), .op (.bin .lss (.tmp 18) (.const (Value.int .i64 0))), none⟩]) (.kill [5, 18]))
  (.cond (.tmp 19) (.ghost (.kill [2, 3, 19]) (.seq (.reg [⟨(some 4), .op (.mv (.const (Value.bool true))), none⟩])
  .ret))
  (.ghost (.kill [19]) .skip)))
  (.seq (.post (.draw [⟨0, ⟨(some 20), .op (.load 1 true (.tmp 2)), none⟩, []⟩,
    ⟨2, ⟨(some 22), .op (.load 1 true (.tmp 3)), none⟩, []⟩,
    ⟨1, ⟨(some 21), .call (.func i_laws_toProgram) [(.tmp 20)], none⟩, [2]⟩,
    ⟨3, ⟨(some 23), .call (.func i_laws_toProgram) [(.tmp 22)], none⟩, []⟩,
    ⟨4, ⟨(some 24), .call (.func i_spec_SameProgram) [(.tmp 21), (.tmp 23)], none⟩, []⟩,
    ⟨5, ⟨(some 6), .op (.mv (.tmp 24)), none⟩, []⟩]
    [0, 1, 0, 7, 15, 31]) (.kill [20, 21, 22, 23, 24]))
  (.seq (.post (.reg [⟨(some 25), .op (.load 1 true (.tmp 2)), none⟩,
    ⟨(some 26), .call (.func i_laws_toProgram) [(.tmp 25)], none⟩,
    ⟨(some 7), .op (.alloc (Value.agg #[Value.slice none 0 0])), none⟩,
    ⟨none, .op (.store 1 (.tmp 7) (.tmp 26)), none⟩]) (.kill [25, 26]))
  (.seq (.post (.reg [⟨(some 27), .op (.load 1 true (.tmp 3)), none⟩,
    ⟨(some 28), .call (.func i_laws_toProgram) [(.tmp 27)], none⟩,
    ⟨(some 8), .op (.alloc (Value.agg #[Value.slice none 0 0])), none⟩,
    ⟨none, .op (.store 1 (.tmp 8) (.tmp 28)), none⟩]) (.kill [27, 28]))
  (.seq (.post (.reg [⟨(some 29), .op (.load 1 true (.tmp 7)), none⟩,
    ⟨(some 30), .op (.load 1 true (.tmp 8)), none⟩,
    ⟨(some 31), .call (.func i_impl_SameProgram) [(.tmp 29), (.tmp 30)], none⟩,
    ⟨(some 9), .op (.mv (.tmp 31)), none⟩]) (.kill [29, 30, 31]))
  (.seq (.seq (.post (.reg [⟨(some 32), .op (.mv (.tmp 9)), none⟩,
    ⟨(some 33), .op (.mv (.tmp 6)), none⟩,
    ⟨(some 34), .op (.eqb true (.tmp 32) (.tmp 33)), none⟩]) (.kill [6, 9, 32, 33]))
  (.cond (.tmp 34) (.ghost (.kill [2, 3, 7, 8, 34]) (.seq (.reg [⟨(some 4), .op (.mv (.const (Value.bool false))), none⟩])
  .ret))
  (.ghost (.kill [34]) .skip)))
  (.seq (.seq (.post (.draw [⟨0, ⟨(some 35), .op (.load 1 true (.tmp 7)), none⟩, []⟩,
    ⟨1, ⟨(some 36), .op (.load 1 true (.tmp 2)), none⟩, []⟩,
    ⟨2, ⟨(some 37), .call (.func i_laws_toProgram) [(.tmp 36)], none⟩, [0]⟩,
    ⟨3, ⟨(some 38), .call (.func i_laws_eqProgram) [(.tmp 35), (.tmp 37)], none⟩, []⟩,
    ⟨4, ⟨(some 39), .op (.un .not (.tmp 38)), none⟩, []⟩]
    [0, 0, 2, 7, 15]) (.kill [2, 7, 35, 36, 37, 38]))
  (.cond (.tmp 39) (.ghost (.kill [3, 8, 39]) (.seq (.reg [⟨(some 4), .op (.mv (.const (Value.bool false))), none⟩])
  .ret))
  (.ghost (.kill [39]) .skip)))
  (.seq (.seq (.post (.draw [⟨0, ⟨(some 40), .op (.load 1 true (.tmp 8)), none⟩, []⟩,
    ⟨1, ⟨(some 41), .op (.load 1 true (.tmp 3)), none⟩, []⟩,
    ⟨2, ⟨(some 42), .call (.func i_laws_toProgram) [(.tmp 41)], none⟩, [0]⟩,
    ⟨3, ⟨(some 43), .call (.func i_laws_eqProgram) [(.tmp 40), (.tmp 42)], none⟩, []⟩,
    ⟨4, ⟨(some 44), .op (.un .not (.tmp 43)), none⟩, []⟩]
    [0, 0, 2, 7, 15]) (.kill [3, 8, 40, 41, 42, 43]))
  (.cond (.tmp 44) (.ghost (.kill [44]) (.seq (.reg [⟨(some 4), .op (.mv (.const (Value.bool false))), none⟩])
  .ret))
  (.ghost (.kill [44]) .skip)))
  (.seq (.reg [⟨(some 4), .op (.mv (.const (Value.bool true))), none⟩])
  .ret))))))))))))))
theorem cf_laws_FnExactSameProgram : chkFn Try.prog i_laws_FnExactSameProgram ac_laws_FnExactSameProgram [.tmp 4] 45 = true := by decide +kernel
def fa_laws_FnExactSameProgram : FnA := ⟨ac_laws_FnExactSameProgram, [.tmp 4], 45, false, true⟩

/-- The checked code of laws szTreeEdit. -/
def ac_laws_szTreeEdit : AC := (.seq (.post (.reg [⟨(some 2), .op (.box true (.tmp 0)), none⟩,
    ⟨(some 4), .op (.mv (.const (Value.int .i64 0))), none⟩]) (.kill [0, 4]))
  (.seq (.post (.reg [⟨(some 5), .op (.mv (.tmp 1)), none⟩,
    ⟨(some 6), .op (.faddr (.tmp 2) 3), none⟩,
    ⟨(some 7), .op (.load 1 false (.tmp 6)), none⟩,
    ⟨(some 8), .op (.len true (.tmp 7)), none⟩,
    ⟨(some 9), .op (.bin .sub (.tmp 5) (.tmp 8)), none⟩,
    ⟨(some 1), .op (.mv (.tmp 9)), none⟩]) (.kill [2, 5, 6, 7, 8, 9]))
  (.seq (.seq (.post (.reg [⟨(some 10), .op (.mv (.tmp 1)), none⟩,
    ⟨(some 11), .op (.bin .lss (.tmp 10) (.const (Value.int .i64 0))), none⟩]) (.kill [10]))
  (.cond (.tmp 11) (.ghost (.kill [1, 11]) (.seq (.reg [⟨(some 4), .op (.mv (.const (Value.int .i64 (-1)))), none⟩])
  .ret))
  (.ghost (.kill [11]) .skip)))
  (.seq (.post (.reg [⟨(some 12), .op (.mv (.tmp 1)), none⟩,
    ⟨(some 4), .op (.mv (.tmp 12)), none⟩]) (.kill [1, 12]))
  .ret))))
theorem cf_laws_szTreeEdit : chkFn Try.prog i_laws_szTreeEdit ac_laws_szTreeEdit [.tmp 4] 13 = true := by decide +kernel
def fa_laws_szTreeEdit : FnA := ⟨ac_laws_szTreeEdit, [.tmp 4], 13, false, true⟩

/-- The checked code of spec l01Symbol. -/
def lb_spec_l01Symbol_0 : AC := (.seq (.seq (.post (.reg [⟨(some 4), .op (.mv (.tmp 3)), none⟩,
    ⟨(some 5), .op (.bin .lss (.tmp 4) (.const (Value.int .i64 6))), none⟩]) (.kill [4]))
  (.cond (.tmp 5) (.ghost (.kill [5]) .skip)
  (.ghost (.kill [0, 3, 5]) (.exit 0))))
  (.seq (.block 1 (.seq (.post (.reg [⟨(some 8), .op (.mv (.tmp 3)), none⟩,
    ⟨(some 9), .op (.idxStr (.const (Value.string ⟨#[40, 91, 41, 93, 97, 98]⟩)) (.tmp 8)), none⟩,
    ⟨(some 10), .op (.mv (.tmp 0)), none⟩,
    ⟨(some 11), .op (.bin .eql (.tmp 9) (.tmp 10)), none⟩]) (.kill [8, 9, 10]))
  (.cond (.tmp 11) (.ghost (.kill [0, 11]) (.seq (.post (.reg [⟨(some 12), .op (.mv (.tmp 3)), none⟩,
    ⟨(some 2), .op (.mv (.tmp 12)), none⟩]) (.kill [3, 12]))
  .ret))
  (.ghost (.kill [11]) .skip))))
  (.post (.reg [⟨(some 6), .op (.mv (.tmp 3)), none⟩,
    ⟨(some 7), .op (.bin .add (.tmp 6) (.const (Value.int .i64 1))), none⟩,
    ⟨(some 3), .op (.mv (.tmp 7)), none⟩]) (.kill [6, 7]))))
def lo_spec_l01Symbol_0 : AC := (.loop lb_spec_l01Symbol_0)
def ac_spec_l01Symbol : AC := (.seq (.post (.reg [⟨(some 2), .op (.mv (.const (Value.int .i64 0))), none⟩]) (.kill [2]))
  (.seq (.seq (.reg [⟨(some 3), .op (.mv (.const (Value.int .i64 0))), none⟩])
  (.block 0 lo_spec_l01Symbol_0))
  (.ghost (.kill [0, 3]) (.seq (.reg [⟨(some 2), .op (.mv (.const (Value.int .i64 (-1)))), none⟩])
  .ret))))
theorem cf_spec_l01Symbol : chkFn Try.prog i_spec_l01Symbol ac_spec_l01Symbol [.tmp 2] 13 = true := by decide +kernel
def fa_spec_l01Symbol : FnA := ⟨ac_spec_l01Symbol, [.tmp 2], 13, false, true⟩

/-- The checked code of spec l01Ok. -/
def lb_spec_l01Ok_0 : AC := (.seq (.seq (.post (.reg [⟨(some 4), .op (.mv (.tmp 3)), none⟩,
    ⟨(some 5), .op (.mv (.tmp 0)), none⟩,
    ⟨(some 6), .op (.len true (.tmp 5)), none⟩,
    ⟨(some 7), .op (.bin .lss (.tmp 4) (.tmp 6)), none⟩]) (.kill [4, 5, 6]))
  (.cond (.tmp 7) (.ghost (.kill [7]) .skip)
  (.ghost (.kill [3, 7]) (.exit 0))))
  (.seq (.block 1 (.seq (.post (.reg [⟨(some 10), .op (.mv (.tmp 0)), none⟩,
    ⟨(some 11), .op (.mv (.tmp 3)), none⟩,
    ⟨(some 12), .op (.idxStr (.tmp 10) (.tmp 11)), none⟩,
    ⟨(some 13), .call (.func i_spec_l01Symbol) [(.tmp 12)], none⟩,
    ⟨(some 14), .op (.bin .lss (.tmp 13) (.const (Value.int .i64 0))), none⟩]) (.kill [10, 11, 12, 13]))
  (.cond (.tmp 14) (.ghost (.kill [0, 3, 14]) (.seq (.reg [⟨(some 2), .op (.mv (.const (Value.bool false))), none⟩])
  .ret))
  (.ghost (.kill [14]) .skip))))
  (.post (.reg [⟨(some 8), .op (.mv (.tmp 3)), none⟩,
    ⟨(some 9), .op (.bin .add (.tmp 8) (.const (Value.int .i64 1))), none⟩,
    ⟨(some 3), .op (.mv (.tmp 9)), none⟩]) (.kill [8, 9]))))
def lo_spec_l01Ok_0 : AC := (.loop lb_spec_l01Ok_0)
def ac_spec_l01Ok : AC := (.seq (.post (.reg [⟨(some 2), .op (.mv (.const (Value.bool false))), none⟩]) (.kill [2]))
  (.seq (.seq (.reg [⟨(some 3), .op (.mv (.const (Value.int .i64 0))), none⟩])
  (.block 0 lo_spec_l01Ok_0))
  (.ghost (.kill [3]) (.seq (.post (.reg [⟨(some 15), .op (.mv (.tmp 0)), none⟩,
    ⟨(some 16), .op (.len true (.tmp 15)), none⟩,
    ⟨(some 17), .op (.bin .leq (.tmp 16) (.const (Value.int .i64 60))), none⟩,
    ⟨(some 2), .op (.mv (.tmp 17)), none⟩]) (.kill [0, 15, 16, 17]))
  .ret))))
theorem cf_spec_l01Ok : chkFn Try.prog i_spec_l01Ok ac_spec_l01Ok [.tmp 2] 18 = true := by decide +kernel
def fa_spec_l01Ok : FnA := ⟨ac_spec_l01Ok, [.tmp 2], 18, false, true⟩

/-- The checked code of spec l00In. -/
def ac_spec_l00In : AC := (.seq (.post (.reg [⟨(some 6), .op (.mv (.const (Value.bool false))), none⟩]) (.kill [6]))
  (.seq (.post (.reg [⟨(some 7), .op (.mv (.tmp 0)), none⟩,
    ⟨(some 8), .op (.mv (.tmp 1)), none⟩,
    ⟨(some 9), .op (.bin .geq (.tmp 7) (.tmp 8)), none⟩,
    ⟨(some 10), .op (.mv (.tmp 9)), none⟩,
    ⟨(some 11), .op (.mv (.tmp 0)), some (10, true)⟩,
    ⟨(some 12), .op (.mv (.tmp 2)), some (10, true)⟩,
    ⟨(some 13), .op (.bin .leq (.tmp 11) (.tmp 12)), some (10, true)⟩,
    ⟨(some 14), .op (.pick (.tmp 10) (.tmp 13) (.const (Value.bool false))), none⟩,
    ⟨(some 6), .op (.mv (.tmp 14)), none⟩]) (.kill [0, 1, 2, 7, 8, 9, 10, 11, 12, 13, 14]))
  .ret))
theorem cf_spec_l00In : chkFn Try.prog i_spec_l00In ac_spec_l00In [.tmp 6] 15 = true := by decide +kernel
def fa_spec_l00In : FnA := ⟨ac_spec_l00In, [.tmp 6], 15, false, true⟩

/-- The checked code of spec l01Call. -/
def ac_spec_l01Call : AC := (.seq (.post (.reg [⟨(some 2), .op (.mv (.const (Value.bool false))), none⟩]) (.kill [2]))
  (.seq (.post (.reg [⟨(some 3), .op (.mv (.tmp 0)), none⟩,
    ⟨(some 4), .op (.bin .eql (.tmp 3) (.const (Value.int .u8 40))), none⟩,
    ⟨(some 5), .op (.mv (.tmp 4)), none⟩,
    ⟨(some 6), .op (.mv (.tmp 0)), some (5, false)⟩,
    ⟨(some 7), .op (.bin .eql (.tmp 6) (.const (Value.int .u8 91))), some (5, false)⟩,
    ⟨(some 8), .op (.pick (.tmp 5) (.const (Value.bool true)) (.tmp 7)), none⟩,
    ⟨(some 2), .op (.mv (.tmp 8)), none⟩]) (.kill [0, 3, 4, 5, 6, 7, 8]))
  .ret))
theorem cf_spec_l01Call : chkFn Try.prog i_spec_l01Call ac_spec_l01Call [.tmp 2] 9 = true := by decide +kernel
def fa_spec_l01Call : FnA := ⟨ac_spec_l01Call, [.tmp 2], 9, false, true⟩

/-- The checked code of spec l01Return. -/
def ac_spec_l01Return : AC := (.seq (.post (.reg [⟨(some 2), .op (.mv (.const (Value.bool false))), none⟩]) (.kill [2]))
  (.seq (.post (.reg [⟨(some 3), .op (.mv (.tmp 0)), none⟩,
    ⟨(some 4), .op (.bin .eql (.tmp 3) (.const (Value.int .u8 41))), none⟩,
    ⟨(some 5), .op (.mv (.tmp 4)), none⟩,
    ⟨(some 6), .op (.mv (.tmp 0)), some (5, false)⟩,
    ⟨(some 7), .op (.bin .eql (.tmp 6) (.const (Value.int .u8 93))), some (5, false)⟩,
    ⟨(some 8), .op (.pick (.tmp 5) (.const (Value.bool true)) (.tmp 7)), none⟩,
    ⟨(some 2), .op (.mv (.tmp 8)), none⟩]) (.kill [0, 3, 4, 5, 6, 7, 8]))
  .ret))
theorem cf_spec_l01Return : chkFn Try.prog i_spec_l01Return ac_spec_l01Return [.tmp 2] 9 = true := by decide +kernel
def fa_spec_l01Return : FnA := ⟨ac_spec_l01Return, [.tmp 2], 9, false, true⟩

/-- The checked code of spec l01Partners. -/
def lb_spec_l01Partners_0 : AC := (.post (.seq (.seq (.post (.reg [⟨(some 9), .op (.mv (.tmp 5)), none⟩,
    ⟨(some 10), .op (.mv (.tmp 0)), none⟩,
    ⟨(some 11), .op (.len true (.tmp 10)), none⟩,
    ⟨(some 12), .op (.bin .lss (.tmp 9) (.tmp 11)), none⟩]) (.kill [9, 10, 11]))
  (.cond (.tmp 12) (.ghost (.kill [12]) .skip)
  (.ghost (.kill [0, 4, 5, 12]) (.exit 0))))
  (.seq (.block 1 (.block 2 (.seq (.post (.reg [⟨(some 19), .op (.mv (.tmp 0)), none⟩,
    ⟨(some 20), .op (.mv (.tmp 5)), none⟩,
    ⟨(some 21), .op (.idxStr (.tmp 19) (.tmp 20)), none⟩,
    ⟨(some 22), .call (.func i_spec_l01Call) [(.tmp 21)], none⟩,
    ⟨(some 18), .op (.mv (.tmp 22)), none⟩]) (.kill [19, 20, 21, 22]))
  (.cond (.tmp 18) (.ghost (.kill [18]) (.seq (.post (.post (.reg [⟨(some 23), .op (.mv (.tmp 3)), none⟩,
    ⟨(some 24), .op (.lits true 1 1 (Value.int .i64 0) [(0, (.const (Value.int .i64 (-2))))]), none⟩,
    ⟨(some 25), .op (.append (.tmp 23) (.tmp 24) 1 8), none⟩,
    ⟨(some 3), .op (.mv (.tmp 25)), none⟩]) (.kill [23, 24, 25])) .nv)
  (.post (.post (.reg [⟨(some 26), .op (.mv (.tmp 4)), none⟩,
    ⟨(some 27), .op (.mv (.tmp 5)), none⟩,
    ⟨(some 28), .op (.lits true 1 1 (Value.int .i64 0) [(0, (.tmp 27))]), none⟩,
    ⟨(some 29), .op (.append (.tmp 26) (.tmp 28) 1 8), none⟩,
    ⟨(some 4), .op (.mv (.tmp 29)), none⟩]) (.kill [26, 27, 28, 29])) .nv)))
  (.ghost (.kill [18]) (.seq (.post (.reg [⟨(some 31), .op (.mv (.tmp 0)), none⟩,
    ⟨(some 32), .op (.mv (.tmp 5)), none⟩,
    ⟨(some 33), .op (.idxStr (.tmp 31) (.tmp 32)), none⟩,
    ⟨(some 34), .call (.func i_spec_l01Return) [(.tmp 33)], none⟩,
    ⟨(some 35), .op (.mv (.tmp 34)), none⟩,
    ⟨(some 36), .op (.mv (.tmp 4)), some (35, true)⟩,
    ⟨(some 37), .op (.len false (.tmp 36)), some (35, true)⟩,
    ⟨(some 38), .op (.bin .gtr (.tmp 37) (.const (Value.int .i64 0))), some (35, true)⟩,
    ⟨(some 39), .op (.pick (.tmp 35) (.tmp 38) (.const (Value.bool false))), none⟩,
    ⟨(some 30), .op (.mv (.tmp 39)), none⟩]) (.kill [31, 32, 33, 34, 35, 36, 37, 38, 39]))
  (.cond (.tmp 30) (.ghost (.kill [30]) (.seq (.post (.reg [⟨(some 40), .op (.mv (.tmp 4)), none⟩,
    ⟨(some 41), .op (.mv (.tmp 4)), none⟩,
    ⟨(some 42), .op (.len false (.tmp 41)), none⟩,
    ⟨(some 43), .op (.bin .sub (.tmp 42) (.const (Value.int .i64 1))), none⟩,
    ⟨(some 44), .op (.iaddrS (.tmp 40) (.tmp 43) 1), none⟩,
    ⟨(some 45), .op (.load 1 false (.tmp 44)), none⟩,
    ⟨(some 6), .op (.mv (.tmp 45)), none⟩]) (.kill [40, 41, 42, 43, 44, 45]))
  (.seq (.post (.post (.reg [⟨(some 46), .op (.mv (.tmp 4)), none⟩,
    ⟨(some 47), .op (.mv (.tmp 4)), none⟩,
    ⟨(some 48), .op (.len false (.tmp 47)), none⟩,
    ⟨(some 49), .op (.bin .sub (.tmp 48) (.const (Value.int .i64 1))), none⟩,
    ⟨(some 50), .op (.slcS (.tmp 46) none (some (.tmp 49)) none 1), none⟩,
    ⟨(some 4), .op (.mv (.tmp 50)), none⟩]) (.kill [46, 47, 48, 49, 50])) .nv)
  (.seq (.post (.reg [⟨(some 51), .op (.mv (.tmp 3)), none⟩,
    ⟨(some 52), .op (.mv (.tmp 6)), none⟩,
    ⟨(some 53), .op (.mv (.tmp 5)), none⟩,
    ⟨(some 54), .op (.iaddrS (.tmp 51) (.tmp 52) 1), none⟩,
    ⟨none, .op (.store 1 (.tmp 54) (.tmp 53)), none⟩]) (.kill [51, 52, 53, 54]))
  (.post (.post (.reg [⟨(some 55), .op (.mv (.tmp 3)), none⟩,
    ⟨(some 56), .op (.mv (.tmp 6)), none⟩,
    ⟨(some 57), .op (.lits true 1 1 (Value.int .i64 0) [(0, (.tmp 56))]), none⟩,
    ⟨(some 58), .op (.append (.tmp 55) (.tmp 57) 1 8), none⟩,
    ⟨(some 3), .op (.mv (.tmp 58)), none⟩]) (.kill [6, 55, 56, 57, 58])) .nv)))))
  (.ghost (.kill [30]) (.seq (.post (.reg [⟨(some 60), .op (.mv (.tmp 0)), none⟩,
    ⟨(some 61), .op (.mv (.tmp 5)), none⟩,
    ⟨(some 62), .op (.idxStr (.tmp 60) (.tmp 61)), none⟩,
    ⟨(some 63), .call (.func i_spec_l01Return) [(.tmp 62)], none⟩,
    ⟨(some 59), .op (.mv (.tmp 63)), none⟩]) (.kill [60, 61, 62, 63]))
  (.cond (.tmp 59) (.ghost (.kill [59]) (.post (.post (.reg [⟨(some 64), .op (.mv (.tmp 3)), none⟩,
    ⟨(some 65), .op (.lits true 1 1 (Value.int .i64 0) [(0, (.const (Value.int .i64 (-2))))]), none⟩,
    ⟨(some 66), .op (.append (.tmp 64) (.tmp 65) 1 8), none⟩,
    ⟨(some 3), .op (.mv (.tmp 66)), none⟩]) (.kill [64, 65, 66])) .nv))
  (.ghost (.kill [59]) (.post (.post (.reg [⟨(some 15), .op (.mv (.tmp 3)), none⟩,
    ⟨(some 16), .op (.lits true 1 1 (Value.int .i64 0) [(0, (.const (Value.int .i64 (-1))))]), none⟩,
    ⟨(some 17), .op (.append (.tmp 15) (.tmp 16) 1 8), none⟩,
    ⟨(some 3), .op (.mv (.tmp 17)), none⟩]) (.kill [15, 16, 17])) .nv))))))))))))
  (.post (.reg [⟨(some 13), .op (.mv (.tmp 5)), none⟩,
    ⟨(some 14), .op (.bin .add (.tmp 13) (.const (Value.int .i64 1))), none⟩,
    ⟨(some 5), .op (.mv (.tmp 14)), none⟩]) (.kill [13, 14])))) .nv)
def lo_spec_l01Partners_0 : AC := (.loop lb_spec_l01Partners_0)
def ac_spec_l01Partners : AC := (.seq (.post (.reg [⟨(some 2), .op (.mv (.const (Value.slice none 0 0))), none⟩]) (.kill [2]))
  (.seq (.post (.reg [⟨(some 7), .op (.lits true 1 0 (Value.int .i64 0) []), none⟩,
    ⟨(some 3), .op (.mv (.tmp 7)), none⟩]) (.kill [7]))
  (.seq (.post (.reg [⟨(some 8), .op (.lits true 1 0 (Value.int .i64 0) []), none⟩,
    ⟨(some 4), .op (.mv (.tmp 8)), none⟩]) (.kill [8]))
  (.seq (.seq (.reg [⟨(some 5), .op (.mv (.const (Value.int .i64 0))), none⟩])
  (.post (.block 0 (.ghost (.ow 3 none 1) (.ghost (.ow 4 none 1) (.ghost .nv lo_spec_l01Partners_0)))) .nv))
  (.ghost (.kill [0, 4, 5]) (.seq (.post (.reg [⟨(some 67), .op (.mv (.tmp 3)), none⟩,
    ⟨(some 2), .op (.mv (.tmp 67)), none⟩]) (.kill [3, 67]))
  .ret))))))
theorem cf_spec_l01Partners : chkFn Try.prog i_spec_l01Partners ac_spec_l01Partners [.tmp 2] 68 = true := by decide +kernel
def fa_spec_l01Partners : FnA := ⟨ac_spec_l01Partners, [.tmp 2], 68, false, true⟩

/-- The checked code of spec l01Pending. -/
def lb_spec_l01Pending_0 : AC := (.seq (.seq (.post (.reg [⟨(some 10), .op (.mv (.tmp 7)), none⟩,
    ⟨(some 11), .op (.mv (.tmp 0)), none⟩,
    ⟨(some 12), .op (.len true (.tmp 11)), none⟩,
    ⟨(some 13), .op (.bin .lss (.tmp 10) (.tmp 12)), none⟩]) (.kill [10, 11, 12]))
  (.cond (.tmp 13) (.ghost (.kill [13]) .skip)
  (.ghost (.kill [0, 4, 7, 13]) (.exit 0))))
  (.seq (.block 1 (.seq (.seq (.post (.reg [⟨(some 16), .op (.mv (.tmp 4)), none⟩,
    ⟨(some 17), .op (.mv (.tmp 7)), none⟩,
    ⟨(some 18), .op (.iaddrS (.tmp 16) (.tmp 17) 1), none⟩,
    ⟨(some 19), .op (.load 1 false (.tmp 18)), none⟩,
    ⟨(some 20), .op (.bin .eql (.tmp 19) (.const (Value.int .i64 (-2)))), none⟩,
    ⟨(some 21), .op (.mv (.tmp 20)), none⟩,
    ⟨(some 22), .op (.mv (.tmp 0)), some (21, true)⟩,
    ⟨(some 23), .op (.mv (.tmp 7)), some (21, true)⟩,
    ⟨(some 24), .op (.idxStr (.tmp 22) (.tmp 23)), some (21, true)⟩,
    ⟨(some 25), .call (.func i_spec_l01Return) [(.tmp 24)], some (21, true)⟩,
    ⟨(some 26), .op (.pick (.tmp 21) (.tmp 25) (.const (Value.bool false))), none⟩]) (.kill [16, 17, 18, 19, 20, 21, 22, 23, 24, 25]))
  (.cond (.tmp 26) (.ghost (.kill [26]) (.post (.reg [⟨(some 27), .op (.mv (.tmp 5)), none⟩,
    ⟨(some 28), .op (.bin .add (.tmp 27) (.const (Value.int .i64 1))), none⟩,
    ⟨(some 5), .op (.mv (.tmp 28)), none⟩]) (.kill [27, 28])))
  (.ghost (.kill [26]) .skip)))
  (.seq (.post (.reg [⟨(some 29), .op (.mv (.tmp 4)), none⟩,
    ⟨(some 30), .op (.mv (.tmp 7)), none⟩,
    ⟨(some 31), .op (.iaddrS (.tmp 29) (.tmp 30) 1), none⟩,
    ⟨(some 32), .op (.load 1 false (.tmp 31)), none⟩,
    ⟨(some 33), .op (.bin .eql (.tmp 32) (.const (Value.int .i64 (-2)))), none⟩,
    ⟨(some 34), .op (.mv (.tmp 33)), none⟩,
    ⟨(some 35), .op (.mv (.tmp 0)), some (34, true)⟩,
    ⟨(some 36), .op (.mv (.tmp 7)), some (34, true)⟩,
    ⟨(some 37), .op (.idxStr (.tmp 35) (.tmp 36)), some (34, true)⟩,
    ⟨(some 38), .call (.func i_spec_l01Call) [(.tmp 37)], some (34, true)⟩,
    ⟨(some 39), .op (.pick (.tmp 34) (.tmp 38) (.const (Value.bool false))), none⟩]) (.kill [29, 30, 31, 32, 33, 34, 35, 36, 37, 38]))
  (.cond (.tmp 39) (.ghost (.kill [39]) (.post (.reg [⟨(some 40), .op (.mv (.tmp 6)), none⟩,
    ⟨(some 41), .op (.bin .add (.tmp 40) (.const (Value.int .i64 1))), none⟩,
    ⟨(some 6), .op (.mv (.tmp 41)), none⟩]) (.kill [40, 41])))
  (.ghost (.kill [39]) .skip)))))
  (.post (.reg [⟨(some 14), .op (.mv (.tmp 7)), none⟩,
    ⟨(some 15), .op (.bin .add (.tmp 14) (.const (Value.int .i64 1))), none⟩,
    ⟨(some 7), .op (.mv (.tmp 15)), none⟩]) (.kill [14, 15]))))
def lo_spec_l01Pending_0 : AC := (.loop lb_spec_l01Pending_0)
def ac_spec_l01Pending : AC := (.seq (.post (.reg [⟨(some 2), .op (.mv (.const (Value.int .i64 0))), none⟩,
    ⟨(some 3), .op (.mv (.const (Value.int .i64 0))), none⟩]) (.kill [2, 3]))
  (.seq (.post (.reg [⟨(some 8), .op (.mv (.tmp 0)), none⟩,
    ⟨(some 9), .call (.func i_spec_l01Partners) [(.tmp 8)], none⟩,
    ⟨(some 4), .op (.mv (.tmp 9)), none⟩]) (.kill [8, 9]))
  (.seq (.reg [⟨(some 5), .op (.mv (.const (Value.int .i64 0))), none⟩])
  (.seq (.reg [⟨(some 6), .op (.mv (.const (Value.int .i64 0))), none⟩])
  (.seq (.seq (.reg [⟨(some 7), .op (.mv (.const (Value.int .i64 0))), none⟩])
  (.block 0 lo_spec_l01Pending_0))
  (.ghost (.kill [0, 4, 7]) (.seq (.post (.reg [⟨(some 42), .op (.mv (.tmp 5)), none⟩,
    ⟨(some 43), .op (.mv (.tmp 6)), none⟩,
    ⟨(some 2), .op (.mv (.tmp 42)), none⟩,
    ⟨(some 3), .op (.mv (.tmp 43)), none⟩]) (.kill [5, 6, 42, 43]))
  .ret)))))))
theorem cf_spec_l01Pending : chkFn Try.prog i_spec_l01Pending ac_spec_l01Pending [.tmp 2, .tmp 3] 44 = true := by decide +kernel
def fa_spec_l01Pending : FnA := ⟨ac_spec_l01Pending, [.tmp 2, .tmp 3], 44, false, true⟩

/-- The checked code of spec l01Matched. -/
def ac_spec_l01Matched : AC := (.seq (.post (.reg [⟨(some 2), .op (.mv (.const (Value.bool false))), none⟩]) (.kill [2]))
  (.seq (.post (.reg [⟨(some 6), .op (.mv (.tmp 0)), none⟩,
    ⟨(some 7), .call (.func i_spec_l01Pending) [(.tmp 6)], none⟩,
    ⟨(some 5), .op (.mv (.tmp 7)), none⟩,
    ⟨(some 8), .op (.ext (.tmp 5) 0), none⟩,
    ⟨(some 9), .op (.ext (.tmp 5) 1), none⟩,
    ⟨(some 3), .op (.mv (.tmp 8)), none⟩,
    ⟨(some 4), .op (.mv (.tmp 9)), none⟩]) (.kill [0, 5, 6, 7, 8, 9]))
  (.seq (.post (.reg [⟨(some 10), .op (.mv (.tmp 3)), none⟩,
    ⟨(some 11), .op (.mv (.tmp 4)), none⟩,
    ⟨(some 12), .op (.bin .add (.tmp 10) (.tmp 11)), none⟩,
    ⟨(some 13), .op (.bin .eql (.tmp 12) (.const (Value.int .i64 0))), none⟩,
    ⟨(some 2), .op (.mv (.tmp 13)), none⟩]) (.kill [3, 4, 10, 11, 12, 13]))
  .ret)))
theorem cf_spec_l01Matched : chkFn Try.prog i_spec_l01Matched ac_spec_l01Matched [.tmp 2] 14 = true := by decide +kernel
def fa_spec_l01Matched : FnA := ⟨ac_spec_l01Matched, [.tmp 2], 14, false, true⟩

/-- The checked code of spec l06Brackets. -/
def ac_spec_l06Brackets : AC := (.seq (.post (.reg [⟨(some 2), .op (.mv (.const (Value.bool false))), none⟩]) (.kill [2]))
  (.seq (.post (.reg [⟨(some 3), .op (.mv (.tmp 0)), none⟩,
    ⟨(some 4), .op (.len true (.tmp 3)), none⟩,
    ⟨(some 5), .op (.bin .eql (.tmp 4) (.const (Value.int .i64 2))), none⟩,
    ⟨(some 6), .op (.mv (.tmp 5)), none⟩,
    ⟨(some 7), .op (.mv (.tmp 0)), some (6, true)⟩,
    ⟨(some 8), .op (.idxStr (.tmp 7) (.const (Value.int .i64 0))), some (6, true)⟩,
    ⟨(some 9), .call (.func i_spec_l01Call) [(.tmp 8)], some (6, true)⟩,
    ⟨(some 10), .op (.pick (.tmp 6) (.tmp 9) (.const (Value.bool false))), none⟩,
    ⟨(some 11), .op (.mv (.tmp 10)), none⟩,
    ⟨(some 12), .op (.mv (.tmp 0)), some (11, true)⟩,
    ⟨(some 13), .op (.idxStr (.tmp 12) (.const (Value.int .i64 1))), some (11, true)⟩,
    ⟨(some 14), .call (.func i_spec_l01Return) [(.tmp 13)], some (11, true)⟩,
    ⟨(some 15), .op (.pick (.tmp 11) (.tmp 14) (.const (Value.bool false))), none⟩,
    ⟨(some 2), .op (.mv (.tmp 15)), none⟩]) (.kill [0, 3, 4, 5, 6, 7, 8, 9, 10, 11, 12, 13, 14, 15]))
  .ret))
theorem cf_spec_l06Brackets : chkFn Try.prog i_spec_l06Brackets ac_spec_l06Brackets [.tmp 2] 16 = true := by decide +kernel
def fa_spec_l06Brackets : FnA := ⟨ac_spec_l06Brackets, [.tmp 2], 16, false, true⟩

/-- The checked code of spec l06Edit. -/
def ac_spec_l06Edit : AC := (.seq (.post (.reg [⟨(some 2), .op (.mv (.const (Value.bool false))), none⟩]) (.kill [2]))
  (.seq (.seq (.post (.reg [⟨(some 3), .op (.mv (.tmp 0)), none⟩,
    ⟨(some 4), .op (.nilc (.tmp 3)), none⟩,
    ⟨(some 5), .op (.faddr (.tmp 4) 0), none⟩,
    ⟨(some 6), .op (.load 1 false (.tmp 5)), none⟩,
    ⟨(some 7), .call (.func i_spec_l00In) [(.tmp 6), (.const (Value.int .i64 1)), (.const (Value.int .i64 5))], none⟩,
    ⟨(some 8), .op (.un .not (.tmp 7)), none⟩,
    ⟨(some 9), .op (.mv (.tmp 8)), none⟩,
    ⟨(some 10), .op (.mv (.tmp 0)), some (9, false)⟩,
    ⟨(some 11), .op (.nilc (.tmp 10)), some (9, false)⟩,
    ⟨(some 12), .op (.faddr (.tmp 11) 1), some (9, false)⟩,
    ⟨(some 13), .op (.load 1 false (.tmp 12)), some (9, false)⟩,
    ⟨(some 14), .call (.func i_spec_l00In) [(.tmp 13), (.const (Value.int .i64 0)), (.const (Value.int .i64 60))], some (9, false)⟩,
    ⟨(some 15), .op (.un .not (.tmp 14)), some (9, false)⟩,
    ⟨(some 16), .op (.pick (.tmp 9) (.const (Value.bool true)) (.tmp 15)), none⟩,
    ⟨(some 17), .op (.mv (.tmp 16)), none⟩,
    ⟨(some 18), .op (.mv (.tmp 0)), some (17, false)⟩,
    ⟨(some 19), .op (.nilc (.tmp 18)), some (17, false)⟩,
    ⟨(some 20), .op (.faddr (.tmp 19) 2), some (17, false)⟩,
    ⟨(some 21), .op (.load 1 false (.tmp 20)), some (17, false)⟩,
    ⟨(some 22), .call (.func i_spec_l00In) [(.tmp 21), (.const (Value.int .i64 0)), (.const (Value.int .i64 60))], some (17, false)⟩,
    ⟨(some 23), .op (.un .not (.tmp 22)), some (17, false)⟩,
    ⟨(some 24), .op (.pick (.tmp 17) (.const (Value.bool true)) (.tmp 23)), none⟩,
    ⟨(some 25), .op (.mv (.tmp 24)), none⟩,
    ⟨(some 26), .op (.mv (.tmp 0)), some (25, false)⟩,
    ⟨(some 27), .op (.nilc (.tmp 26)), some (25, false)⟩,
    ⟨(some 28), .op (.faddr (.tmp 27) 0), some (25, false)⟩,
    ⟨(some 29), .op (.load 1 false (.tmp 28)), some (25, false)⟩,
    ⟨(some 30), .op (.bin .neq (.tmp 29) (.const (Value.int .i64 4))), some (25, false)⟩,
    ⟨(some 31), .op (.mv (.tmp 30)), some (25, false)⟩,
    ⟨(some 32), .op (.mv (.tmp 0)), some (31, true)⟩,
    ⟨(some 33), .op (.nilc (.tmp 32)), some (31, true)⟩,
    ⟨(some 34), .op (.faddr (.tmp 33) 2), some (31, true)⟩,
    ⟨(some 35), .op (.load 1 false (.tmp 34)), some (31, true)⟩,
    ⟨(some 36), .op (.bin .neq (.tmp 35) (.const (Value.int .i64 0))), some (31, true)⟩,
    ⟨(some 37), .op (.pick (.tmp 31) (.tmp 36) (.const (Value.bool false))), some (25, false)⟩,
    ⟨(some 38), .op (.pick (.tmp 25) (.const (Value.bool true)) (.tmp 37)), none⟩]) (.kill [3, 4, 5, 6, 7, 8, 9, 10, 11, 12, 13, 14, 15, 16, 17, 18, 19, 20, 21, 22, 23, 24, 25, 26, 27, 28, 29, 30, 31, 32, 33, 34, 35, 36, 37]))
  (.cond (.tmp 38) (.ghost (.kill [0, 38]) (.seq (.reg [⟨(some 2), .op (.mv (.const (Value.bool false))), none⟩])
  .ret))
  (.ghost (.kill [38]) .skip)))
  (.seq (.seq (.post (.reg [⟨(some 39), .op (.mv (.tmp 0)), none⟩,
    ⟨(some 40), .op (.nilc (.tmp 39)), none⟩,
    ⟨(some 41), .op (.faddr (.tmp 40) 0), none⟩,
    ⟨(some 42), .op (.load 1 false (.tmp 41)), none⟩]) (.kill [39, 40, 41]))
  (.block 0 (.seq (.post (.reg [⟨(some 44), .op (.bin .eql (.tmp 42) (.const (Value.int .i64 1))), none⟩,
    ⟨(some 43), .op (.mv (.tmp 44)), none⟩]) (.kill [44]))
  (.cond (.tmp 43) (.ghost (.kill [42, 43]) (.seq (.post (.reg [⟨(some 45), .op (.mv (.tmp 0)), none⟩,
    ⟨(some 46), .op (.nilc (.tmp 45)), none⟩,
    ⟨(some 47), .op (.faddr (.tmp 46) 3), none⟩,
    ⟨(some 48), .op (.load 1 false (.tmp 47)), none⟩,
    ⟨(some 49), .call (.func i_spec_l01Ok) [(.tmp 48)], none⟩,
    ⟨(some 50), .op (.mv (.tmp 49)), none⟩,
    ⟨(some 51), .op (.mv (.tmp 0)), some (50, true)⟩,
    ⟨(some 52), .op (.nilc (.tmp 51)), some (50, true)⟩,
    ⟨(some 53), .op (.faddr (.tmp 52) 3), some (50, true)⟩,
    ⟨(some 54), .op (.load 1 false (.tmp 53)), some (50, true)⟩,
    ⟨(some 55), .call (.func i_spec_l01Matched) [(.tmp 54)], some (50, true)⟩,
    ⟨(some 56), .op (.pick (.tmp 50) (.tmp 55) (.const (Value.bool false))), none⟩,
    ⟨(some 2), .op (.mv (.tmp 56)), none⟩]) (.kill [0, 45, 46, 47, 48, 49, 50, 51, 52, 53, 54, 55, 56]))
  .ret))
  (.ghost (.kill [43]) (.seq (.seq (.post (.reg [⟨(some 58), .op (.bin .eql (.tmp 42) (.const (Value.int .i64 4))), none⟩,
    ⟨(some 57), .op (.mv (.tmp 58)), none⟩]) (.kill [58]))
  (.cond (.tmp 57) (.ghost (.kill [42]) .skip)
  (.ghost (.kill [57]) (.post (.reg [⟨(some 59), .op (.bin .eql (.tmp 42) (.const (Value.int .i64 5))), none⟩,
    ⟨(some 57), .op (.mv (.tmp 59)), none⟩]) (.kill [42, 59])))))
  (.cond (.tmp 57) (.ghost (.kill [57]) (.seq (.post (.reg [⟨(some 60), .op (.mv (.tmp 0)), none⟩,
    ⟨(some 61), .op (.nilc (.tmp 60)), none⟩,
    ⟨(some 62), .op (.faddr (.tmp 61) 3), none⟩,
    ⟨(some 63), .op (.load 1 false (.tmp 62)), none⟩,
    ⟨(some 64), .call (.func i_spec_l06Brackets) [(.tmp 63)], none⟩,
    ⟨(some 2), .op (.mv (.tmp 64)), none⟩]) (.kill [0, 60, 61, 62, 63, 64]))
  .ret))
  (.ghost (.kill [57]) .skip))))))))
  (.seq (.post (.reg [⟨(some 65), .op (.mv (.tmp 0)), none⟩,
    ⟨(some 66), .op (.nilc (.tmp 65)), none⟩,
    ⟨(some 67), .op (.faddr (.tmp 66) 3), none⟩,
    ⟨(some 68), .op (.load 1 false (.tmp 67)), none⟩,
    ⟨(some 69), .op (.bin .eql (.tmp 68) (.const (Value.string ⟨#[]⟩))), none⟩,
    ⟨(some 2), .op (.mv (.tmp 69)), none⟩]) (.kill [0, 65, 66, 67, 68, 69]))
  .ret))))
theorem cf_spec_l06Edit : chkFn Try.prog i_spec_l06Edit ac_spec_l06Edit [.tmp 2] 70 = true := by decide +kernel
def fa_spec_l06Edit : FnA := ⟨ac_spec_l06Edit, [.tmp 2], 70, false, true⟩

/-- The checked code of spec ValidTreeEdit. -/
def ac_spec_ValidTreeEdit : AC := (.seq (.post (.reg [⟨(some 1), .op (.box true (.tmp 0)), none⟩,
    ⟨(some 2), .op (.mv (.const (Value.bool false))), none⟩]) (.kill [0, 2]))
  (.seq (.post (.reg [⟨(some 3), .call (.func i_spec_l06Edit) [(.tmp 1)], none⟩,
    ⟨(some 2), .op (.mv (.tmp 3)), none⟩]) (.kill [1, 3]))
  .ret))
theorem cf_spec_ValidTreeEdit : chkFn Try.prog i_spec_ValidTreeEdit ac_spec_ValidTreeEdit [.tmp 2] 4 = true := by decide +kernel
def fa_spec_ValidTreeEdit : FnA := ⟨ac_spec_ValidTreeEdit, [.tmp 2], 4, false, true⟩

/-- The checked code of laws toTreeEdit. -/
def ac_laws_toTreeEdit : AC := (.seq (.post (.reg [⟨(some 1), .op (.box true (.tmp 0)), none⟩,
    ⟨(some 2), .op (.alloc (Value.agg #[Value.int .i64 0, Value.int .i64 0, Value.int .i64 0, Value.string ⟨#[]⟩])), none⟩]) (.kill [0]))
  (.seq (.reg [⟨(some 3), .op (.alloc (Value.agg #[Value.int .i64 0, Value.int .i64 0, Value.int .i64 0, Value.string ⟨#[]⟩])), none⟩])
  (.seq (.post (.reg [⟨(some 4), .op (.faddr (.tmp 1) 0), none⟩,
    ⟨(some 5), .op (.load 1 false (.tmp 4)), none⟩,
    ⟨(some 6), .op (.faddr (.tmp 3) 0), none⟩,
    ⟨none, .op (.store 1 (.tmp 6) (.tmp 5)), none⟩]) (.kill [4, 5, 6]))
  (.seq (.post (.reg [⟨(some 7), .op (.faddr (.tmp 1) 1), none⟩,
    ⟨(some 8), .op (.load 1 false (.tmp 7)), none⟩,
    ⟨(some 9), .op (.faddr (.tmp 3) 1), none⟩,
    ⟨none, .op (.store 1 (.tmp 9) (.tmp 8)), none⟩]) (.kill [7, 8, 9]))
  (.seq (.post (.reg [⟨(some 10), .op (.faddr (.tmp 1) 2), none⟩,
    ⟨(some 11), .op (.load 1 false (.tmp 10)), none⟩,
    ⟨(some 12), .op (.faddr (.tmp 3) 2), none⟩,
    ⟨none, .op (.store 1 (.tmp 12) (.tmp 11)), none⟩]) (.kill [10, 11, 12]))
  (.seq (.post (.reg [⟨(some 13), .op (.faddr (.tmp 1) 3), none⟩,
    ⟨(some 14), .op (.load 1 false (.tmp 13)), none⟩,
    ⟨(some 15), .op (.faddr (.tmp 3) 3), none⟩,
    ⟨none, .op (.store 1 (.tmp 15) (.tmp 14)), none⟩]) (.kill [1, 13, 14, 15]))
  (.seq (.post (.reg [⟨(some 16), .op (.load 4 true (.tmp 3)), none⟩,
    ⟨none, .op (.store 4 (.tmp 2) (.tmp 16)), none⟩]) (.kill [3, 16]))
  .ret)))))))
theorem cf_laws_toTreeEdit : chkFn Try.prog i_laws_toTreeEdit ac_laws_toTreeEdit [.cell 2 4 true] 17 = true := by decide +kernel
def fa_laws_toTreeEdit : FnA := ⟨ac_laws_toTreeEdit, [.cell 2 4 true], 17, false, true⟩

/-- The checked code of impl treeFormOf. -/
def ac_impl_treeFormOf : AC := (.seq (.post (.reg [⟨(some 2), .op (.alloc (Value.agg #[Value.string ⟨#[]⟩, Value.bool false, Value.bool false])), none⟩,
    ⟨(some 3), .op (.mv (.const (Value.bool false))), none⟩]) (.kill [3]))
  (.seq (.seq (.post (.reg [⟨(some 4), .op (.mv (.tmp 0)), none⟩]) (.kill [0]))
  (.block 0 (.seq (.post (.reg [⟨(some 6), .op (.bin .eql (.tmp 4) (.const (Value.int .i64 1))), none⟩,
    ⟨(some 5), .op (.mv (.tmp 6)), none⟩]) (.kill [6]))
  (.cond (.tmp 5) (.ghost (.kill [4, 5]) (.seq (.post (.reg [⟨(some 7), .op (.build [Value.string ⟨#[]⟩, Value.bool false, Value.bool false] [(0, 1, (.const (Value.string ⟨#[112, 117, 116]⟩))), (1, 1, (.const (Value.bool false))), (2, 1, (.const (Value.bool true)))]), none⟩,
    ⟨none, .op (.store 3 (.tmp 2) (.tmp 7)), none⟩,
    ⟨(some 3), .op (.mv (.const (Value.bool true))), none⟩]) (.kill [7]))
  .ret))
  (.ghost (.kill [5]) (.seq (.post (.reg [⟨(some 9), .op (.bin .eql (.tmp 4) (.const (Value.int .i64 2))), none⟩,
    ⟨(some 8), .op (.mv (.tmp 9)), none⟩]) (.kill [9]))
  (.cond (.tmp 8) (.ghost (.kill [4, 8]) (.seq (.post (.reg [⟨(some 10), .op (.build [Value.string ⟨#[]⟩, Value.bool false, Value.bool false] [(0, 1, (.const (Value.string ⟨#[99, 117, 116]⟩))), (1, 1, (.const (Value.bool false))), (2, 1, (.const (Value.bool false)))]), none⟩,
    ⟨none, .op (.store 3 (.tmp 2) (.tmp 10)), none⟩,
    ⟨(some 3), .op (.mv (.const (Value.bool true))), none⟩]) (.kill [10]))
  .ret))
  (.ghost (.kill [8]) (.seq (.post (.reg [⟨(some 12), .op (.bin .eql (.tmp 4) (.const (Value.int .i64 3))), none⟩,
    ⟨(some 11), .op (.mv (.tmp 12)), none⟩]) (.kill [12]))
  (.cond (.tmp 11) (.ghost (.kill [4, 11]) (.seq (.post (.reg [⟨(some 13), .op (.build [Value.string ⟨#[]⟩, Value.bool false, Value.bool false] [(0, 1, (.const (Value.string ⟨#[111, 112, 101, 110]⟩))), (1, 1, (.const (Value.bool false))), (2, 1, (.const (Value.bool false)))]), none⟩,
    ⟨none, .op (.store 3 (.tmp 2) (.tmp 13)), none⟩,
    ⟨(some 3), .op (.mv (.const (Value.bool true))), none⟩]) (.kill [13]))
  .ret))
  (.ghost (.kill [11]) (.seq (.post (.reg [⟨(some 15), .op (.bin .eql (.tmp 4) (.const (Value.int .i64 4))), none⟩,
    ⟨(some 14), .op (.mv (.tmp 15)), none⟩]) (.kill [15]))
  (.cond (.tmp 14) (.ghost (.kill [4, 14]) (.seq (.post (.reg [⟨(some 16), .op (.build [Value.string ⟨#[]⟩, Value.bool false, Value.bool false] [(0, 1, (.const (Value.string ⟨#[119, 114, 97, 112]⟩))), (1, 1, (.const (Value.bool true))), (2, 1, (.const (Value.bool true)))]), none⟩,
    ⟨none, .op (.store 3 (.tmp 2) (.tmp 16)), none⟩,
    ⟨(some 3), .op (.mv (.const (Value.bool true))), none⟩]) (.kill [16]))
  .ret))
  (.ghost (.kill [14]) (.seq (.post (.reg [⟨(some 18), .op (.bin .eql (.tmp 4) (.const (Value.int .i64 5))), none⟩,
    ⟨(some 17), .op (.mv (.tmp 18)), none⟩]) (.kill [4, 18]))
  (.cond (.tmp 17) (.ghost (.kill [17]) (.seq (.post (.reg [⟨(some 19), .op (.build [Value.string ⟨#[]⟩, Value.bool false, Value.bool false] [(0, 1, (.const (Value.string ⟨#[110, 97, 109, 101]⟩))), (1, 1, (.const (Value.bool false))), (2, 1, (.const (Value.bool true)))]), none⟩,
    ⟨none, .op (.store 3 (.tmp 2) (.tmp 19)), none⟩,
    ⟨(some 3), .op (.mv (.const (Value.bool true))), none⟩]) (.kill [19]))
  .ret))
  (.ghost (.kill [17]) .skip)))))))))))))))))
  (.seq (.post (.reg [⟨(some 20), .op (.build [Value.string ⟨#[]⟩, Value.bool false, Value.bool false] []), none⟩,
    ⟨none, .op (.store 3 (.tmp 2) (.tmp 20)), none⟩,
    ⟨(some 3), .op (.mv (.const (Value.bool false))), none⟩]) (.kill [20]))
  .ret)))
theorem cf_impl_treeFormOf : chkFn Try.prog i_impl_treeFormOf ac_impl_treeFormOf [.cell 2 3 true, .tmp 3] 21 = true := by decide +kernel
def fa_impl_treeFormOf : FnA := ⟨ac_impl_treeFormOf, [.cell 2 3 true, .tmp 3], 21, false, true⟩

/-- The checked code of impl within. -/
def ac_impl_within : AC := (.seq (.post (.reg [⟨(some 6), .op (.mv (.const (Value.bool false))), none⟩]) (.kill [6]))
  (.seq (.post (.reg [⟨(some 7), .op (.mv (.tmp 0)), none⟩,
    ⟨(some 8), .op (.mv (.tmp 1)), none⟩,
    ⟨(some 9), .op (.bin .geq (.tmp 7) (.tmp 8)), none⟩,
    ⟨(some 10), .op (.mv (.tmp 9)), none⟩,
    ⟨(some 11), .op (.mv (.tmp 0)), some (10, true)⟩,
    ⟨(some 12), .op (.mv (.tmp 2)), some (10, true)⟩,
    ⟨(some 13), .op (.bin .leq (.tmp 11) (.tmp 12)), some (10, true)⟩,
    ⟨(some 14), .op (.pick (.tmp 10) (.tmp 13) (.const (Value.bool false))), none⟩,
    ⟨(some 6), .op (.mv (.tmp 14)), none⟩]) (.kill [0, 1, 2, 7, 8, 9, 10, 11, 12, 13, 14]))
  .ret))
theorem cf_impl_within : chkFn Try.prog i_impl_within ac_impl_within [.tmp 6] 15 = true := by decide +kernel
def fa_impl_within : FnA := ⟨ac_impl_within, [.tmp 6], 15, false, true⟩

/-- The checked code of stringslite IndexByte. -/
def ac_internal_stringslite_IndexByte : AC := (.seq (.post (.reg [⟨(some 4), .op (.mv (.const (Value.int .i64 0))), none⟩]) (.kill [4]))
  (.seq (.post (.reg [⟨(some 5), .op (.mv (.tmp 0)), none⟩,
    ⟨(some 6), .op (.mv (.tmp 1)), none⟩,
    ⟨(some 7), .op (.idxb i_internal_bytealg_IndexByteString (.tmp 5) (.tmp 6)), none⟩,
    ⟨(some 4), .op (.mv (.tmp 7)), none⟩]) (.kill [0, 1, 5, 6, 7]))
  .ret))
theorem cf_internal_stringslite_IndexByte : chkFn Try.prog i_internal_stringslite_IndexByte ac_internal_stringslite_IndexByte [.tmp 4] 8 = true := by decide +kernel
def fa_internal_stringslite_IndexByte : FnA := ⟨ac_internal_stringslite_IndexByte, [.tmp 4], 8, false, true⟩

/-- The checked code of strings IndexByte. -/
def ac_strings_IndexByte : AC := (.seq (.post (.reg [⟨(some 4), .op (.mv (.const (Value.int .i64 0))), none⟩]) (.kill [4]))
  (.seq (.post (.reg [⟨(some 5), .op (.mv (.tmp 0)), none⟩,
    ⟨(some 6), .op (.mv (.tmp 1)), none⟩,
    ⟨(some 7), .call (.func i_internal_stringslite_IndexByte) [(.tmp 5), (.tmp 6)], none⟩,
    ⟨(some 4), .op (.mv (.tmp 7)), none⟩]) (.kill [0, 1, 5, 6, 7]))
  .ret))
theorem cf_strings_IndexByte : chkFn Try.prog i_strings_IndexByte ac_strings_IndexByte [.tmp 4] 8 = true := by decide +kernel
def fa_strings_IndexByte : FnA := ⟨ac_strings_IndexByte, [.tmp 4], 8, false, true⟩

/-- The checked code of impl ValidWord. -/
def lb_impl_ValidWord_0 : AC := (.seq (.reg [⟨(some 7), .op (.bin .lss (.tmp 6) (.tmp 5)), none⟩])
  (.seq (.cond (.tmp 7) (.ghost (.kill [7]) .skip)
  (.ghost (.kill [5, 6, 7]) (.exit 0)))
  (.seq (.block 1 (.seq (.post (.reg [⟨(some 8), .op (.mv (.tmp 6)), none⟩,
    ⟨(some 3), .op (.mv (.tmp 8)), none⟩]) (.kill [8]))
  (.seq (.post (.reg [⟨(some 9), .op (.mv (.tmp 0)), none⟩,
    ⟨(some 10), .op (.mv (.tmp 3)), none⟩,
    ⟨(some 11), .op (.idxStr (.tmp 9) (.tmp 10)), none⟩,
    ⟨(some 12), .call (.func i_strings_IndexByte) [(.const (Value.string ⟨#[40, 91, 41, 93, 97, 98]⟩)), (.tmp 11)], none⟩,
    ⟨(some 13), .op (.bin .lss (.tmp 12) (.const (Value.int .i64 0))), none⟩]) (.kill [3, 9, 10, 11, 12]))
  (.cond (.tmp 13) (.ghost (.kill [0, 5, 6, 13]) (.seq (.reg [⟨(some 2), .op (.mv (.const (Value.bool false))), none⟩])
  .ret))
  (.ghost (.kill [13]) .skip)))))
  (.post (.reg [⟨(some 14), .op (.bin .add (.tmp 6) (.const (Value.int .i64 1))), none⟩,
    ⟨(some 6), .op (.mv (.tmp 14)), none⟩]) (.kill [14])))))
def lo_impl_ValidWord_0 : AC := (.loop lb_impl_ValidWord_0)
def ac_impl_ValidWord : AC := (.seq (.post (.reg [⟨(some 2), .op (.mv (.const (Value.bool false))), none⟩]) (.kill [2]))
  (.seq (.seq (.post (.reg [⟨(some 4), .op (.mv (.tmp 0)), none⟩,
    ⟨(some 5), .op (.len true (.tmp 4)), none⟩,
    ⟨(some 6), .op (.mv (.const (Value.int .i64 0))), none⟩]) (.kill [4]))
  (.block 0 lo_impl_ValidWord_0))
  (.ghost (.kill [5, 6]) (.seq (.post (.reg [⟨(some 15), .op (.mv (.tmp 0)), none⟩,
    ⟨(some 16), .op (.len true (.tmp 15)), none⟩,
    ⟨(some 17), .op (.bin .leq (.tmp 16) (.const (Value.int .i64 60))), none⟩,
    ⟨(some 2), .op (.mv (.tmp 17)), none⟩]) (.kill [0, 15, 16, 17]))
  .ret))))
theorem cf_impl_ValidWord : chkFn Try.prog i_impl_ValidWord ac_impl_ValidWord [.tmp 2] 18 = true := by decide +kernel
def fa_impl_ValidWord : FnA := ⟨ac_impl_ValidWord, [.tmp 2], 18, false, true⟩

/-- The checked code of impl isCall. -/
def ac_impl_isCall : AC := (.seq (.post (.reg [⟨(some 2), .op (.mv (.const (Value.bool false))), none⟩]) (.kill [2]))
  (.seq (.post (.reg [⟨(some 3), .op (.mv (.tmp 0)), none⟩,
    ⟨(some 4), .op (.bin .eql (.tmp 3) (.const (Value.int .u8 40))), none⟩,
    ⟨(some 5), .op (.mv (.tmp 4)), none⟩,
    ⟨(some 6), .op (.mv (.tmp 0)), some (5, false)⟩,
    ⟨(some 7), .op (.bin .eql (.tmp 6) (.const (Value.int .u8 91))), some (5, false)⟩,
    ⟨(some 8), .op (.pick (.tmp 5) (.const (Value.bool true)) (.tmp 7)), none⟩,
    ⟨(some 2), .op (.mv (.tmp 8)), none⟩]) (.kill [0, 3, 4, 5, 6, 7, 8]))
  .ret))
theorem cf_impl_isCall : chkFn Try.prog i_impl_isCall ac_impl_isCall [.tmp 2] 9 = true := by decide +kernel
def fa_impl_isCall : FnA := ⟨ac_impl_isCall, [.tmp 2], 9, false, true⟩

/-- The checked code of impl isReturn. -/
def ac_impl_isReturn : AC := (.seq (.post (.reg [⟨(some 2), .op (.mv (.const (Value.bool false))), none⟩]) (.kill [2]))
  (.seq (.post (.reg [⟨(some 3), .op (.mv (.tmp 0)), none⟩,
    ⟨(some 4), .op (.bin .eql (.tmp 3) (.const (Value.int .u8 41))), none⟩,
    ⟨(some 5), .op (.mv (.tmp 4)), none⟩,
    ⟨(some 6), .op (.mv (.tmp 0)), some (5, false)⟩,
    ⟨(some 7), .op (.bin .eql (.tmp 6) (.const (Value.int .u8 93))), some (5, false)⟩,
    ⟨(some 8), .op (.pick (.tmp 5) (.const (Value.bool true)) (.tmp 7)), none⟩,
    ⟨(some 2), .op (.mv (.tmp 8)), none⟩]) (.kill [0, 3, 4, 5, 6, 7, 8]))
  .ret))
theorem cf_impl_isReturn : chkFn Try.prog i_impl_isReturn ac_impl_isReturn [.tmp 2] 9 = true := by decide +kernel
def fa_impl_isReturn : FnA := ⟨ac_impl_isReturn, [.tmp 2], 9, false, true⟩

/-- The checked code of impl size int64 . -/
def ac_impl_size_int64 : AC := (.seq (.post (.reg [⟨(some 2), .op (.mv (.const (Value.int .i64 0))), none⟩]) (.kill [2]))
  (.seq (.post (.reg [⟨(some 3), .op (.mv (.tmp 0)), none⟩,
    ⟨(some 4), .op (.len false (.tmp 3)), none⟩,
    ⟨(some 2), .op (.mv (.tmp 4)), none⟩]) (.kill [0, 3, 4]))
  .ret))
theorem cf_impl_size_int64 : chkFn Try.prog i_impl_size_int64 ac_impl_size_int64 [.tmp 2] 5 = true := by decide +kernel
def fa_impl_size_int64 : FnA := ⟨ac_impl_size_int64, [.tmp 2], 5, false, true⟩

/-- The checked code of impl match. -/
def lb_impl_match_0 : AC := (.post (.seq (.reg [⟨(some 15), .op (.bin .lss (.tmp 14) (.tmp 13)), none⟩])
  (.seq (.cond (.tmp 15) (.ghost (.kill [15]) .skip)
  (.ghost (.kill [0, 13, 14, 15]) (.exit 0)))
  (.seq (.block 1 (.seq (.post (.reg [⟨(some 16), .op (.mv (.tmp 14)), none⟩,
    ⟨(some 4), .op (.mv (.tmp 16)), none⟩]) (.kill [16]))
  (.seq (.post (.reg [⟨(some 17), .op (.mv (.tmp 4)), none⟩,
    ⟨(some 5), .op (.mv (.tmp 17)), none⟩,
    ⟨(some 6), .op (.mv (.const (Value.int .i64 (-1)))), none⟩]) (.kill [17]))
  (.seq (.post (.reg [⟨(some 18), .op (.faddr (.tmp 3) 2), none⟩,
    ⟨(some 19), .op (.load 1 false (.tmp 18)), none⟩,
    ⟨(some 20), .op (.len false (.tmp 19)), none⟩,
    ⟨(some 7), .op (.mv (.tmp 20)), none⟩]) (.kill [18, 19, 20]))
  (.seq (.block 2 (.seq (.post (.reg [⟨(some 22), .op (.mv (.tmp 0)), none⟩,
    ⟨(some 23), .op (.mv (.tmp 4)), none⟩,
    ⟨(some 24), .op (.idxStr (.tmp 22) (.tmp 23)), none⟩,
    ⟨(some 25), .call (.func i_impl_isReturn) [(.tmp 24)], none⟩,
    ⟨(some 26), .op (.mv (.tmp 25)), none⟩,
    ⟨(some 27), .op (.mv (.tmp 7)), some (26, true)⟩,
    ⟨(some 28), .op (.bin .eql (.tmp 27) (.const (Value.int .i64 0))), some (26, true)⟩,
    ⟨(some 29), .op (.pick (.tmp 26) (.tmp 28) (.const (Value.bool false))), none⟩,
    ⟨(some 21), .op (.mv (.tmp 29)), none⟩]) (.kill [22, 23, 24, 25, 26, 27, 28, 29]))
  (.cond (.tmp 21) (.ghost (.kill [6, 7, 21]) (.seq (.reg [⟨(some 6), .op (.mv (.const (Value.int .i64 (-2)))), none⟩])
  (.post (.post (.reg [⟨(some 30), .op (.faddr (.tmp 3) 1), none⟩,
    ⟨(some 31), .op (.load 1 false (.tmp 30)), none⟩,
    ⟨(some 32), .op (.mv (.tmp 5)), none⟩,
    ⟨(some 33), .op (.lits true 1 1 (Value.int .i64 0) [(0, (.tmp 32))]), none⟩,
    ⟨(some 34), .op (.append (.tmp 31) (.tmp 33) 1 8), none⟩,
    ⟨(some 35), .op (.faddr (.tmp 3) 1), none⟩,
    ⟨none, .op (.store 1 (.tmp 35) (.tmp 34)), none⟩]) (.kill [30, 31, 32, 33, 34, 35])) .nv)))
  (.ghost (.kill [21]) (.seq (.post (.reg [⟨(some 37), .op (.mv (.tmp 0)), none⟩,
    ⟨(some 38), .op (.mv (.tmp 4)), none⟩,
    ⟨(some 39), .op (.idxStr (.tmp 37) (.tmp 38)), none⟩,
    ⟨(some 40), .call (.func i_impl_isReturn) [(.tmp 39)], none⟩,
    ⟨(some 36), .op (.mv (.tmp 40)), none⟩]) (.kill [37, 38, 39, 40]))
  (.cond (.tmp 36) (.ghost (.kill [6, 36]) (.seq (.post (.reg [⟨(some 41), .op (.faddr (.tmp 3) 2), none⟩,
    ⟨(some 42), .op (.load 1 false (.tmp 41)), none⟩,
    ⟨(some 43), .op (.mv (.tmp 7)), none⟩,
    ⟨(some 44), .op (.bin .sub (.tmp 43) (.const (Value.int .i64 1))), none⟩,
    ⟨(some 45), .op (.iaddrS (.tmp 42) (.tmp 44) 1), none⟩,
    ⟨(some 46), .op (.load 1 false (.tmp 45)), none⟩,
    ⟨(some 6), .op (.mv (.tmp 46)), none⟩]) (.kill [41, 42, 43, 44, 45, 46]))
  (.seq (.post (.reg [⟨(some 47), .op (.faddr (.tmp 3) 0), none⟩,
    ⟨(some 48), .op (.load 1 false (.tmp 47)), none⟩,
    ⟨(some 49), .op (.mv (.tmp 6)), none⟩,
    ⟨(some 50), .op (.mv (.tmp 5)), none⟩,
    ⟨(some 51), .op (.iaddrS (.tmp 48) (.tmp 49) 1), none⟩,
    ⟨none, .op (.store 1 (.tmp 51) (.tmp 50)), none⟩]) (.kill [47, 48, 49, 50, 51]))
  (.post (.post (.reg [⟨(some 52), .op (.faddr (.tmp 3) 2), none⟩,
    ⟨(some 53), .op (.load 1 false (.tmp 52)), none⟩,
    ⟨(some 54), .op (.mv (.tmp 7)), none⟩,
    ⟨(some 55), .op (.bin .sub (.tmp 54) (.const (Value.int .i64 1))), none⟩,
    ⟨(some 56), .op (.slcS (.tmp 53) none (some (.tmp 55)) none 1), none⟩,
    ⟨(some 57), .op (.faddr (.tmp 3) 2), none⟩,
    ⟨none, .op (.store 1 (.tmp 57) (.tmp 56)), none⟩]) (.kill [7, 52, 53, 54, 55, 56, 57])) .nv))))
  (.ghost (.kill [7, 36]) .skip)))))))
  (.seq (.reg [⟨(some 8), .op (.mv (.const (Value.int .i64 (-1)))), none⟩])
  (.seq (.seq (.post (.reg [⟨(some 58), .op (.faddr (.tmp 3) 2), none⟩,
    ⟨(some 59), .op (.load 1 false (.tmp 58)), none⟩,
    ⟨(some 60), .op (.len false (.tmp 59)), none⟩,
    ⟨(some 9), .op (.mv (.tmp 60)), none⟩]) (.kill [58, 59, 60]))
  (.seq (.post (.reg [⟨(some 61), .op (.mv (.tmp 9)), none⟩,
    ⟨(some 62), .op (.bin .gtr (.tmp 61) (.const (Value.int .i64 0))), none⟩]) (.kill [61]))
  (.cond (.tmp 62) (.ghost (.kill [8, 62]) (.post (.reg [⟨(some 63), .op (.faddr (.tmp 3) 2), none⟩,
    ⟨(some 64), .op (.load 1 false (.tmp 63)), none⟩,
    ⟨(some 65), .op (.mv (.tmp 9)), none⟩,
    ⟨(some 66), .op (.bin .sub (.tmp 65) (.const (Value.int .i64 1))), none⟩,
    ⟨(some 67), .op (.iaddrS (.tmp 64) (.tmp 66) 1), none⟩,
    ⟨(some 68), .op (.load 1 false (.tmp 67)), none⟩,
    ⟨(some 8), .op (.mv (.tmp 68)), none⟩]) (.kill [9, 63, 64, 65, 66, 67, 68])))
  (.ghost (.kill [9, 62]) .skip))))
  (.seq (.seq (.post (.reg [⟨(some 69), .op (.mv (.tmp 0)), none⟩,
    ⟨(some 70), .op (.mv (.tmp 4)), none⟩,
    ⟨(some 71), .op (.idxStr (.tmp 69) (.tmp 70)), none⟩,
    ⟨(some 72), .call (.func i_impl_isCall) [(.tmp 71)], none⟩]) (.kill [4, 69, 70, 71]))
  (.cond (.tmp 72) (.ghost (.kill [6, 72]) (.seq (.reg [⟨(some 6), .op (.mv (.const (Value.int .i64 (-2)))), none⟩])
  (.post (.post (.reg [⟨(some 73), .op (.faddr (.tmp 3) 2), none⟩,
    ⟨(some 74), .op (.load 1 false (.tmp 73)), none⟩,
    ⟨(some 75), .op (.mv (.tmp 5)), none⟩,
    ⟨(some 76), .op (.lits true 1 1 (Value.int .i64 0) [(0, (.tmp 75))]), none⟩,
    ⟨(some 77), .op (.append (.tmp 74) (.tmp 76) 1 8), none⟩,
    ⟨(some 78), .op (.faddr (.tmp 3) 2), none⟩,
    ⟨none, .op (.store 1 (.tmp 78) (.tmp 77)), none⟩]) (.kill [5, 73, 74, 75, 76, 77, 78])) .nv)))
  (.ghost (.kill [5, 72]) .skip)))
  (.seq (.post (.post (.draw [⟨0, ⟨(some 79), .op (.faddr (.tmp 3) 0), none⟩, []⟩,
    ⟨1, ⟨(some 80), .op (.load 1 false (.tmp 79)), none⟩, []⟩,
    ⟨2, ⟨(some 81), .op (.mv (.tmp 6)), none⟩, []⟩,
    ⟨3, ⟨(some 82), .op (.lits true 1 1 (Value.int .i64 0) [(0, (.tmp 81))]), none⟩, []⟩,
    ⟨5, ⟨(some 84), .op (.faddr (.tmp 3) 4), none⟩, []⟩,
    ⟨6, ⟨(some 85), .op (.load 1 false (.tmp 84)), none⟩, []⟩,
    ⟨7, ⟨(some 86), .op (.mv (.tmp 8)), none⟩, []⟩,
    ⟨8, ⟨(some 87), .op (.lits true 1 1 (Value.int .i64 0) [(0, (.tmp 86))]), none⟩, []⟩,
    ⟨4, ⟨(some 83), .op (.append (.tmp 80) (.tmp 82) 1 8), none⟩, [6]⟩,
    ⟨10, ⟨(some 89), .op (.faddr (.tmp 3) 0), none⟩, []⟩,
    ⟨9, ⟨(some 88), .op (.append (.tmp 85) (.tmp 87) 1 8), none⟩, []⟩,
    ⟨11, ⟨none, .op (.store 1 (.tmp 89) (.tmp 83)), none⟩, []⟩,
    ⟨12, ⟨(some 90), .op (.faddr (.tmp 3) 4), none⟩, []⟩,
    ⟨13, ⟨none, .op (.store 1 (.tmp 90) (.tmp 88)), none⟩, []⟩]
    [0, 1, 0, 4, 15, 0, 32, 0, 128, 511, 127, 2047, 4095, 8191]) (.kill [6, 8, 79, 80, 81, 82, 83, 84, 85, 86, 87, 88, 89, 90])) .nv)
  (.post (.post (.draw [⟨0, ⟨(some 91), .op (.faddr (.tmp 3) 3), none⟩, []⟩,
    ⟨1, ⟨(some 92), .op (.load 1 false (.tmp 91)), none⟩, []⟩,
    ⟨2, ⟨(some 93), .op (.faddr (.tmp 3) 2), none⟩, []⟩,
    ⟨3, ⟨(some 94), .op (.load 1 false (.tmp 93)), none⟩, []⟩,
    ⟨4, ⟨(some 95), .call (.func i_impl_size_int64) [(.tmp 94)], none⟩, [1]⟩,
    ⟨5, ⟨(some 96), .op (.lits true 1 1 (Value.int .i64 0) [(0, (.tmp 95))]), none⟩, []⟩,
    ⟨6, ⟨(some 97), .op (.append (.tmp 92) (.tmp 96) 1 8), none⟩, []⟩,
    ⟨7, ⟨(some 98), .op (.faddr (.tmp 3) 3), none⟩, []⟩,
    ⟨8, ⟨none, .op (.store 1 (.tmp 98) (.tmp 97)), none⟩, []⟩]
    [0, 1, 0, 4, 12, 28, 63, 127, 255]) (.kill [91, 92, 93, 94, 95, 96, 97, 98])) .nv))))))))))
  (.post (.reg [⟨(some 99), .op (.bin .add (.tmp 14) (.const (Value.int .i64 1))), none⟩,
    ⟨(some 14), .op (.mv (.tmp 99)), none⟩]) (.kill [99]))))) .nv)
def lo_impl_match_0 : AC := (.loop lb_impl_match_0)
def ac_impl_match : AC := (.seq (.reg [⟨(some 2), .op (.alloc (Value.agg #[Value.slice none 0 0, Value.slice none 0 0, Value.slice none 0 0, Value.slice none 0 0, Value.slice none 0 0])), none⟩])
  (.seq (.post (.reg [⟨(some 10), .op (.lits false 1 1 (Value.int .i64 0) [(0, (.const (Value.int .i64 0)))]), none⟩,
    ⟨(some 11), .op (.build [Value.slice none 0 0, Value.slice none 0 0, Value.slice none 0 0, Value.slice none 0 0, Value.slice none 0 0] [(3, 1, (.tmp 10))]), none⟩,
    ⟨(some 3), .op (.alloc (Value.agg #[Value.slice none 0 0, Value.slice none 0 0, Value.slice none 0 0, Value.slice none 0 0, Value.slice none 0 0])), none⟩,
    ⟨none, .op (.store 5 (.tmp 3) (.tmp 11)), none⟩]) (.kill [10, 11]))
  (.seq (.seq (.post (.reg [⟨(some 12), .op (.mv (.tmp 0)), none⟩,
    ⟨(some 13), .op (.len true (.tmp 12)), none⟩,
    ⟨(some 14), .op (.mv (.const (Value.int .i64 0))), none⟩]) (.kill [12]))
  (.post (.block 0 (.ghost (.ow 3 (some 0) 1) (.ghost (.ow 3 (some 1) 1) (.ghost (.ow 3 (some 2) 1) (.ghost (.ow 3 (some 3) 1) (.ghost (.ow 3 (some 4) 1) (.ghost .nv lo_impl_match_0))))))) .nv))
  (.ghost (.kill [0, 13, 14]) (.seq (.post (.reg [⟨(some 100), .op (.load 5 true (.tmp 3)), none⟩,
    ⟨none, .op (.store 5 (.tmp 2) (.tmp 100)), none⟩]) (.kill [3, 100]))
  .ret)))))
theorem cf_impl_match : chkFn Try.prog i_impl_match ac_impl_match [.cell 2 5 true] 101 = true := by decide +kernel
def fa_impl_match : FnA := ⟨ac_impl_match, [.cell 2 5 true], 101, false, true⟩

/-- The checked code of impl isMatched. -/
def ac_impl_isMatched : AC := (.seq (.post (.reg [⟨(some 2), .op (.mv (.const (Value.bool false))), none⟩]) (.kill [2]))
  (.seq (.post (.reg [⟨(some 4), .op (.mv (.tmp 0)), none⟩,
    ⟨(some 5), .call (.func i_impl_match) [(.tmp 4)], none⟩,
    ⟨(some 3), .op (.alloc (Value.agg #[Value.slice none 0 0, Value.slice none 0 0, Value.slice none 0 0, Value.slice none 0 0, Value.slice none 0 0])), none⟩,
    ⟨none, .op (.store 5 (.tmp 3) (.tmp 5)), none⟩]) (.kill [0, 4, 5]))
  (.seq (.post (.reg [⟨(some 6), .op (.faddr (.tmp 3) 1), none⟩,
    ⟨(some 7), .op (.load 1 false (.tmp 6)), none⟩,
    ⟨(some 8), .op (.len false (.tmp 7)), none⟩,
    ⟨(some 9), .op (.faddr (.tmp 3) 2), none⟩,
    ⟨(some 10), .op (.load 1 false (.tmp 9)), none⟩,
    ⟨(some 11), .op (.len false (.tmp 10)), none⟩,
    ⟨(some 12), .op (.bin .add (.tmp 8) (.tmp 11)), none⟩,
    ⟨(some 13), .op (.bin .eql (.tmp 12) (.const (Value.int .i64 0))), none⟩,
    ⟨(some 2), .op (.mv (.tmp 13)), none⟩]) (.kill [3, 6, 7, 8, 9, 10, 11, 12, 13]))
  .ret)))
theorem cf_impl_isMatched : chkFn Try.prog i_impl_isMatched ac_impl_isMatched [.tmp 2] 14 = true := by decide +kernel
def fa_impl_isMatched : FnA := ⟨ac_impl_isMatched, [.tmp 2], 14, false, true⟩

/-- The checked code of impl isBrackets. -/
def ac_impl_isBrackets : AC := (.seq (.post (.reg [⟨(some 2), .op (.mv (.const (Value.bool false))), none⟩]) (.kill [2]))
  (.seq (.post (.reg [⟨(some 3), .op (.mv (.tmp 0)), none⟩,
    ⟨(some 4), .op (.len true (.tmp 3)), none⟩,
    ⟨(some 5), .op (.bin .eql (.tmp 4) (.const (Value.int .i64 2))), none⟩,
    ⟨(some 6), .op (.mv (.tmp 5)), none⟩,
    ⟨(some 7), .op (.mv (.tmp 0)), some (6, true)⟩,
    ⟨(some 8), .op (.idxStr (.tmp 7) (.const (Value.int .i64 0))), some (6, true)⟩,
    ⟨(some 9), .call (.func i_impl_isCall) [(.tmp 8)], some (6, true)⟩,
    ⟨(some 10), .op (.pick (.tmp 6) (.tmp 9) (.const (Value.bool false))), none⟩,
    ⟨(some 11), .op (.mv (.tmp 10)), none⟩,
    ⟨(some 12), .op (.mv (.tmp 0)), some (11, true)⟩,
    ⟨(some 13), .op (.idxStr (.tmp 12) (.const (Value.int .i64 1))), some (11, true)⟩,
    ⟨(some 14), .call (.func i_impl_isReturn) [(.tmp 13)], some (11, true)⟩,
    ⟨(some 15), .op (.pick (.tmp 11) (.tmp 14) (.const (Value.bool false))), none⟩,
    ⟨(some 2), .op (.mv (.tmp 15)), none⟩]) (.kill [0, 3, 4, 5, 6, 7, 8, 9, 10, 11, 12, 13, 14, 15]))
  .ret))
theorem cf_impl_isBrackets : chkFn Try.prog i_impl_isBrackets ac_impl_isBrackets [.tmp 2] 16 = true := by decide +kernel
def fa_impl_isBrackets : FnA := ⟨ac_impl_isBrackets, [.tmp 2], 16, false, true⟩

/-- The checked code of impl ValidTreeEdit. -/
def ac_impl_ValidTreeEdit : AC := (.seq (.post (.reg [⟨(some 1), .op (.box true (.tmp 0)), none⟩,
    ⟨(some 2), .op (.mv (.const (Value.bool false))), none⟩]) (.kill [0, 2]))
  (.seq (.post (.reg [⟨(some 6), .op (.faddr (.tmp 1) 0), none⟩,
    ⟨(some 7), .op (.load 1 false (.tmp 6)), none⟩,
    ⟨(some 8), .call (.func i_impl_treeFormOf) [(.tmp 7)], none⟩,
    ⟨(some 5), .op (.mv (.tmp 8)), none⟩,
    ⟨(some 9), .op (.ext (.tmp 5) 0), none⟩,
    ⟨(some 10), .op (.ext (.tmp 5) 1), none⟩,
    ⟨(some 3), .op (.alloc (Value.agg #[Value.string ⟨#[]⟩, Value.bool false, Value.bool false])), none⟩,
    ⟨none, .op (.store 3 (.tmp 3) (.tmp 9)), none⟩,
    ⟨(some 4), .op (.mv (.tmp 10)), none⟩]) (.kill [5, 6, 7, 8, 9, 10]))
  (.seq (.seq (.post (.reg [⟨(some 11), .op (.mv (.tmp 4)), none⟩,
    ⟨(some 12), .op (.un .not (.tmp 11)), none⟩,
    ⟨(some 13), .op (.mv (.tmp 12)), none⟩,
    ⟨(some 14), .op (.faddr (.tmp 1) 1), some (13, false)⟩,
    ⟨(some 15), .op (.load 1 false (.tmp 14)), some (13, false)⟩,
    ⟨(some 16), .call (.func i_impl_within) [(.tmp 15), (.const (Value.int .i64 0)), (.const (Value.int .i64 60))], some (13, false)⟩,
    ⟨(some 17), .op (.un .not (.tmp 16)), some (13, false)⟩,
    ⟨(some 18), .op (.pick (.tmp 13) (.const (Value.bool true)) (.tmp 17)), none⟩,
    ⟨(some 19), .op (.mv (.tmp 18)), none⟩,
    ⟨(some 20), .op (.faddr (.tmp 1) 2), some (19, false)⟩,
    ⟨(some 21), .op (.load 1 false (.tmp 20)), some (19, false)⟩,
    ⟨(some 22), .call (.func i_impl_within) [(.tmp 21), (.const (Value.int .i64 0)), (.const (Value.int .i64 60))], some (19, false)⟩,
    ⟨(some 23), .op (.un .not (.tmp 22)), some (19, false)⟩,
    ⟨(some 24), .op (.pick (.tmp 19) (.const (Value.bool true)) (.tmp 23)), none⟩,
    ⟨(some 25), .op (.mv (.tmp 24)), none⟩,
    ⟨(some 26), .op (.faddr (.tmp 3) 1), some (25, false)⟩,
    ⟨(some 27), .op (.load 1 false (.tmp 26)), some (25, false)⟩,
    ⟨(some 28), .op (.un .not (.tmp 27)), some (25, false)⟩,
    ⟨(some 29), .op (.mv (.tmp 28)), some (25, false)⟩,
    ⟨(some 30), .op (.faddr (.tmp 1) 2), some (29, true)⟩,
    ⟨(some 31), .op (.load 1 false (.tmp 30)), some (29, true)⟩,
    ⟨(some 32), .op (.bin .neq (.tmp 31) (.const (Value.int .i64 0))), some (29, true)⟩,
    ⟨(some 33), .op (.pick (.tmp 29) (.tmp 32) (.const (Value.bool false))), some (25, false)⟩,
    ⟨(some 34), .op (.pick (.tmp 25) (.const (Value.bool true)) (.tmp 33)), none⟩]) (.kill [4, 11, 12, 13, 14, 15, 16, 17, 18, 19, 20, 21, 22, 23, 24, 25, 26, 27, 28, 29, 30, 31, 32, 33]))
  (.cond (.tmp 34) (.ghost (.kill [1, 3, 34]) (.seq (.reg [⟨(some 2), .op (.mv (.const (Value.bool false))), none⟩])
  .ret))
  (.ghost (.kill [34]) .skip)))
  (.seq (.block 0 (.seq (.post (.reg [⟨(some 36), .op (.faddr (.tmp 1) 0), none⟩,
    ⟨(some 37), .op (.load 1 false (.tmp 36)), none⟩,
    ⟨(some 38), .op (.bin .eql (.tmp 37) (.const (Value.int .i64 1))), none⟩,
    ⟨(some 35), .op (.mv (.tmp 38)), none⟩]) (.kill [36, 37, 38]))
  (.cond (.tmp 35) (.ghost (.kill [3, 35]) (.seq (.post (.reg [⟨(some 39), .op (.faddr (.tmp 1) 3), none⟩,
    ⟨(some 40), .op (.load 1 false (.tmp 39)), none⟩,
    ⟨(some 41), .call (.func i_impl_ValidWord) [(.tmp 40)], none⟩,
    ⟨(some 42), .op (.mv (.tmp 41)), none⟩,
    ⟨(some 43), .op (.faddr (.tmp 1) 3), some (42, true)⟩,
    ⟨(some 44), .op (.load 1 false (.tmp 43)), some (42, true)⟩,
    ⟨(some 45), .call (.func i_impl_isMatched) [(.tmp 44)], some (42, true)⟩,
    ⟨(some 46), .op (.pick (.tmp 42) (.tmp 45) (.const (Value.bool false))), none⟩,
    ⟨(some 2), .op (.mv (.tmp 46)), none⟩]) (.kill [1, 39, 40, 41, 42, 43, 44, 45, 46]))
  .ret))
  (.ghost (.kill [35]) (.seq (.post (.reg [⟨(some 48), .op (.faddr (.tmp 3) 2), none⟩,
    ⟨(some 49), .op (.load 1 false (.tmp 48)), none⟩,
    ⟨(some 47), .op (.mv (.tmp 49)), none⟩]) (.kill [3, 48, 49]))
  (.cond (.tmp 47) (.ghost (.kill [47]) (.seq (.post (.reg [⟨(some 50), .op (.faddr (.tmp 1) 3), none⟩,
    ⟨(some 51), .op (.load 1 false (.tmp 50)), none⟩,
    ⟨(some 52), .call (.func i_impl_isBrackets) [(.tmp 51)], none⟩,
    ⟨(some 2), .op (.mv (.tmp 52)), none⟩]) (.kill [1, 50, 51, 52]))
  .ret))
  (.ghost (.kill [47]) .skip)))))))
  (.seq (.post (.reg [⟨(some 53), .op (.faddr (.tmp 1) 3), none⟩,
    ⟨(some 54), .op (.load 1 false (.tmp 53)), none⟩,
    ⟨(some 55), .op (.bin .eql (.tmp 54) (.const (Value.string ⟨#[]⟩))), none⟩,
    ⟨(some 2), .op (.mv (.tmp 55)), none⟩]) (.kill [1, 53, 54, 55]))
  .ret)))))
theorem cf_impl_ValidTreeEdit : chkFn Try.prog i_impl_ValidTreeEdit ac_impl_ValidTreeEdit [.tmp 2] 56 = true := by decide +kernel
def fa_impl_ValidTreeEdit : FnA := ⟨ac_impl_ValidTreeEdit, [.tmp 2], 56, false, true⟩

/-- The checked code of laws FnExactValidTreeEdit. -/
def ac_laws_FnExactValidTreeEdit : AC := (.seq (.post (.reg [⟨(some 1), .op (.box true (.tmp 0)), none⟩,
    ⟨(some 2), .op (.mv (.const (Value.bool false))), none⟩]) (.kill [0, 2]))
  (.seq (.reg [⟨(some 3), .op (.mv (.const (Value.int .i64 1048576))), none⟩])
  (.seq (.post (.reg [⟨(some 6), .op (.load 4 true (.tmp 1)), none⟩,
    ⟨(some 7), .op (.mv (.tmp 3)), none⟩,
    ⟨(some 8), .call (.func i_laws_szTreeEdit) [(.tmp 6), (.tmp 7)], none⟩,
    ⟨(some 3), .op (.mv (.tmp 8)), none⟩]) (.kill [6, 7, 8]))
  (.seq (.seq (.post (.reg [⟨(some 9), .op (.mv (.tmp 3)), none⟩,
    ⟨(some 10), .op (.bin .lss (.tmp 9) (.const (Value.int .i64 0))), none⟩]) (.kill [3, 9]))
  (.cond (.tmp 10) (.ghost (.kill [1, 10]) (.seq (.reg [⟨(some 2), .op (.mv (.const (Value.bool true))), none⟩])
  .ret))
  (.ghost (.kill [10]) .skip)))
  (.seq (.post (.reg [⟨(some 11), .op (.load 4 true (.tmp 1)), none⟩,
    ⟨(some 12), .call (.func i_laws_toTreeEdit) [(.tmp 11)], none⟩,
    ⟨(some 13), .call (.func i_spec_ValidTreeEdit) [(.tmp 12)], none⟩,
    ⟨(some 4), .op (.mv (.tmp 13)), none⟩]) (.kill [11, 12, 13]))
  (.seq (.post (.reg [⟨(some 14), .op (.load 4 true (.tmp 1)), none⟩,
    ⟨(some 15), .call (.func i_laws_toTreeEdit) [(.tmp 14)], none⟩,
    ⟨(some 16), .call (.func i_impl_ValidTreeEdit) [(.tmp 15)], none⟩,
    ⟨(some 5), .op (.mv (.tmp 16)), none⟩]) (.kill [1, 14, 15, 16]))
  (.seq (.seq (.post (.reg [⟨(some 17), .op (.mv (.tmp 5)), none⟩,
    ⟨(some 18), .op (.mv (.tmp 4)), none⟩,
    ⟨(some 19), .op (.eqb true (.tmp 17) (.tmp 18)), none⟩]) (.kill [4, 5, 17, 18]))
  (.cond (.tmp 19) (.ghost (.kill [19]) (.seq (.reg [⟨(some 2), .op (.mv (.const (Value.bool false))), none⟩])
  .ret))
  (.ghost (.kill [19]) .skip)))
  (.seq (.reg [⟨(some 2), .op (.mv (.const (Value.bool true))), none⟩])
  .ret))))))))
theorem cf_laws_FnExactValidTreeEdit : chkFn Try.prog i_laws_FnExactValidTreeEdit ac_laws_FnExactValidTreeEdit [.tmp 2] 20 = true := by decide +kernel
def fa_laws_FnExactValidTreeEdit : FnA := ⟨ac_laws_FnExactValidTreeEdit, [.tmp 2], 20, false, true⟩

/-- The checked code of spec l07Inner. -/
def ac_spec_l07Inner : AC := (.seq (.post (.reg [⟨(some 2), .op (.mv (.const (Value.bool false))), none⟩]) (.kill [2]))
  (.seq (.post (.reg [⟨(some 3), .op (.mv (.tmp 0)), none⟩,
    ⟨(some 4), .op (.nilc (.tmp 3)), none⟩,
    ⟨(some 5), .op (.faddr (.tmp 4) 2), none⟩,
    ⟨(some 6), .op (.load 1 false (.tmp 5)), none⟩,
    ⟨(some 7), .op (.len true (.tmp 6)), none⟩,
    ⟨(some 8), .op (.bin .eql (.tmp 7) (.const (Value.int .i64 1))), none⟩,
    ⟨(some 2), .op (.mv (.tmp 8)), none⟩]) (.kill [0, 3, 4, 5, 6, 7, 8]))
  .ret))
theorem cf_spec_l07Inner : chkFn Try.prog i_spec_l07Inner ac_spec_l07Inner [.tmp 2] 9 = true := by decide +kernel
def fa_spec_l07Inner : FnA := ⟨ac_spec_l07Inner, [.tmp 2], 9, false, true⟩

/-- The checked code of spec l07Ok. -/
def lb_spec_l07Ok_0 : AC := (.seq (.seq (.post (.reg [⟨(some 41), .op (.mv (.tmp 6)), none⟩,
    ⟨(some 42), .op (.mv (.tmp 5)), none⟩,
    ⟨(some 43), .op (.nilc (.tmp 42)), none⟩,
    ⟨(some 44), .op (.faddr (.tmp 43) 1), none⟩,
    ⟨(some 45), .op (.load 1 false (.tmp 44)), none⟩,
    ⟨(some 46), .op (.len false (.tmp 45)), none⟩,
    ⟨(some 47), .op (.bin .lss (.tmp 41) (.tmp 46)), none⟩]) (.kill [41, 42, 43, 44, 45, 46]))
  (.cond (.tmp 47) (.ghost (.kill [47]) .skip)
  (.ghost (.kill [5, 6, 47]) (.exit 2))))
  (.seq (.block 3 (.seq (.post (.reg [⟨(some 50), .op (.mv (.tmp 5)), none⟩,
    ⟨(some 51), .op (.nilc (.tmp 50)), none⟩,
    ⟨(some 52), .op (.faddr (.tmp 51) 1), none⟩,
    ⟨(some 53), .op (.load 1 false (.tmp 52)), none⟩,
    ⟨(some 54), .op (.mv (.tmp 6)), none⟩,
    ⟨(some 55), .op (.iaddrS (.tmp 53) (.tmp 54) 4), none⟩,
    ⟨(some 7), .op (.mv (.tmp 55)), none⟩]) (.kill [50, 51, 52, 53, 54, 55]))
  (.seq (.seq (.post (.draw [⟨0, ⟨(some 56), .op (.mv (.tmp 7)), none⟩, []⟩,
    ⟨1, ⟨(some 57), .op (.nilc (.tmp 56)), none⟩, []⟩,
    ⟨2, ⟨(some 58), .op (.faddr (.tmp 57) 0), none⟩, []⟩,
    ⟨3, ⟨(some 59), .op (.load 1 false (.tmp 58)), none⟩, []⟩,
    ⟨4, ⟨(some 60), .op (.mv (.tmp 5)), none⟩, []⟩,
    ⟨5, ⟨(some 61), .op (.nilc (.tmp 60)), none⟩, []⟩,
    ⟨6, ⟨(some 62), .op (.faddr (.tmp 61) 0), none⟩, []⟩,
    ⟨7, ⟨(some 63), .op (.load 1 false (.tmp 62)), none⟩, []⟩,
    ⟨8, ⟨(some 64), .op (.bin .sub (.tmp 63) (.const (Value.int .i64 1))), none⟩, []⟩,
    ⟨9, ⟨(some 65), .call (.func i_spec_l00In) [(.tmp 59), (.const (Value.int .i64 0)), (.tmp 64)], none⟩, []⟩,
    ⟨10, ⟨(some 66), .op (.un .not (.tmp 65)), none⟩, []⟩,
    ⟨11, ⟨(some 67), .op (.mv (.tmp 66)), none⟩, []⟩,
    ⟨12, ⟨(some 68), .op (.mv (.tmp 7)), some (67, false)⟩, []⟩,
    ⟨13, ⟨(some 69), .op (.nilc (.tmp 68)), some (67, false)⟩, []⟩,
    ⟨14, ⟨(some 70), .op (.faddr (.tmp 69) 1), some (67, false)⟩, []⟩,
    ⟨15, ⟨(some 71), .op (.load 1 false (.tmp 70)), some (67, false)⟩, []⟩,
    ⟨16, ⟨(some 72), .op (.mv (.tmp 5)), some (67, false)⟩, []⟩,
    ⟨17, ⟨(some 73), .op (.nilc (.tmp 72)), some (67, false)⟩, []⟩,
    ⟨18, ⟨(some 74), .op (.faddr (.tmp 73) 0), some (67, false)⟩, []⟩,
    ⟨19, ⟨(some 75), .op (.load 1 false (.tmp 74)), some (67, false)⟩, []⟩,
    ⟨20, ⟨(some 76), .op (.bin .sub (.tmp 75) (.const (Value.int .i64 1))), some (67, false)⟩, []⟩,
    ⟨21, ⟨(some 77), .call (.func i_spec_l00In) [(.tmp 71), (.const (Value.int .i64 0)), (.tmp 76)], some (67, false)⟩, []⟩,
    ⟨22, ⟨(some 78), .op (.un .not (.tmp 77)), some (67, false)⟩, []⟩,
    ⟨23, ⟨(some 79), .op (.pick (.tmp 67) (.const (Value.bool true)) (.tmp 78)), none⟩, []⟩]
    [0, 1, 3, 7, 0, 16, 48, 112, 240, 511, 1023, 2047, 4095, 8191, 16383, 32767, 4095, 69631, 200703, 462847, 987135, 2097151, 4194303, 8388607]) (.kill [56, 57, 58, 59, 60, 61, 62, 63, 64, 65, 66, 67, 68, 69, 70, 71, 72, 73, 74, 75, 76, 77, 78]))
  (.cond (.tmp 79) (.ghost (.kill [0, 3, 4, 5, 6, 7, 79]) (.seq (.reg [⟨(some 2), .op (.mv (.const (Value.bool false))), none⟩])
  .ret))
  (.ghost (.kill [79]) .skip)))
  (.seq (.post (.reg [⟨(some 80), .op (.mv (.tmp 7)), none⟩,
    ⟨(some 81), .op (.nilc (.tmp 80)), none⟩,
    ⟨(some 82), .op (.faddr (.tmp 81) 2), none⟩,
    ⟨(some 83), .op (.load 1 false (.tmp 82)), none⟩,
    ⟨(some 84), .op (.bin .neq (.tmp 83) (.const (Value.string ⟨#[97]⟩))), none⟩,
    ⟨(some 85), .op (.mv (.tmp 84)), none⟩,
    ⟨(some 86), .op (.mv (.tmp 7)), some (85, true)⟩,
    ⟨(some 87), .op (.nilc (.tmp 86)), some (85, true)⟩,
    ⟨(some 88), .op (.faddr (.tmp 87) 2), some (85, true)⟩,
    ⟨(some 89), .op (.load 1 false (.tmp 88)), some (85, true)⟩,
    ⟨(some 90), .op (.bin .neq (.tmp 89) (.const (Value.string ⟨#[98]⟩))), some (85, true)⟩,
    ⟨(some 91), .op (.pick (.tmp 85) (.tmp 90) (.const (Value.bool false))), none⟩,
    ⟨(some 92), .op (.mv (.tmp 91)), none⟩,
    ⟨(some 93), .op (.mv (.tmp 7)), some (92, true)⟩,
    ⟨(some 94), .op (.nilc (.tmp 93)), some (92, true)⟩,
    ⟨(some 95), .op (.faddr (.tmp 94) 2), some (92, true)⟩,
    ⟨(some 96), .op (.load 1 false (.tmp 95)), some (92, true)⟩,
    ⟨(some 97), .call (.func i_spec_l06Brackets) [(.tmp 96)], some (92, true)⟩,
    ⟨(some 98), .op (.un .not (.tmp 97)), some (92, true)⟩,
    ⟨(some 99), .op (.pick (.tmp 92) (.tmp 98) (.const (Value.bool false))), none⟩,
    ⟨(some 100), .op (.mv (.tmp 99)), none⟩,
    ⟨(some 101), .op (.mv (.tmp 7)), some (100, false)⟩,
    ⟨(some 102), .op (.nilc (.tmp 101)), some (100, false)⟩,
    ⟨(some 103), .op (.faddr (.tmp 102) 3), some (100, false)⟩,
    ⟨(some 104), .op (.load 1 false (.tmp 103)), some (100, false)⟩,
    ⟨(some 105), .op (.mv (.tmp 3)), some (100, false)⟩,
    ⟨(some 106), .op (.bin .sub (.tmp 105) (.const (Value.int .i64 1))), some (100, false)⟩,
    ⟨(some 107), .call (.func i_spec_l00In) [(.tmp 104), (.const (Value.int .i64 0)), (.tmp 106)], some (100, false)⟩,
    ⟨(some 108), .op (.un .not (.tmp 107)), some (100, false)⟩,
    ⟨(some 109), .op (.pick (.tmp 100) (.const (Value.bool true)) (.tmp 108)), none⟩,
    ⟨(some 110), .op (.mv (.tmp 109)), none⟩,
    ⟨(some 111), .op (.mv (.tmp 7)), some (110, false)⟩,
    ⟨(some 112), .call (.func i_spec_l07Inner) [(.tmp 111)], some (110, false)⟩,
    ⟨(some 113), .op (.mv (.tmp 112)), some (110, false)⟩,
    ⟨(some 114), .op (.mv (.tmp 7)), some (113, true)⟩,
    ⟨(some 115), .op (.nilc (.tmp 114)), some (113, true)⟩,
    ⟨(some 116), .op (.faddr (.tmp 115) 3), some (113, true)⟩,
    ⟨(some 117), .op (.load 1 false (.tmp 116)), some (113, true)⟩,
    ⟨(some 118), .op (.bin .neq (.tmp 117) (.const (Value.int .i64 0))), some (113, true)⟩,
    ⟨(some 119), .op (.pick (.tmp 113) (.tmp 118) (.const (Value.bool false))), some (110, false)⟩,
    ⟨(some 120), .op (.pick (.tmp 110) (.const (Value.bool true)) (.tmp 119)), none⟩]) (.kill [7, 80, 81, 82, 83, 84, 85, 86, 87, 88, 89, 90, 91, 92, 93, 94, 95, 96, 97, 98, 99, 100, 101, 102, 103, 104, 105, 106, 107, 108, 109, 110, 111, 112, 113, 114, 115, 116, 117, 118, 119]))
  (.cond (.tmp 120) (.ghost (.kill [0, 3, 4, 5, 6, 120]) (.seq (.reg [⟨(some 2), .op (.mv (.const (Value.bool false))), none⟩])
  .ret))
  (.ghost (.kill [120]) .skip))))))
  (.post (.reg [⟨(some 48), .op (.mv (.tmp 6)), none⟩,
    ⟨(some 49), .op (.bin .add (.tmp 48) (.const (Value.int .i64 1))), none⟩,
    ⟨(some 6), .op (.mv (.tmp 49)), none⟩]) (.kill [48, 49]))))
def lo_spec_l07Ok_0 : AC := (.loop lb_spec_l07Ok_0)
def lb_spec_l07Ok_1 : AC := (.seq (.seq (.post (.reg [⟨(some 16), .op (.mv (.tmp 4)), none⟩,
    ⟨(some 17), .op (.mv (.tmp 3)), none⟩,
    ⟨(some 18), .op (.bin .lss (.tmp 16) (.tmp 17)), none⟩]) (.kill [16, 17]))
  (.cond (.tmp 18) (.ghost (.kill [18]) .skip)
  (.ghost (.kill [0, 3, 4, 18]) (.exit 0))))
  (.seq (.block 1 (.seq (.post (.reg [⟨(some 21), .op (.mv (.tmp 0)), none⟩,
    ⟨(some 22), .op (.nilc (.tmp 21)), none⟩,
    ⟨(some 23), .op (.faddr (.tmp 22) 0), none⟩,
    ⟨(some 24), .op (.load 1 false (.tmp 23)), none⟩,
    ⟨(some 25), .op (.mv (.tmp 4)), none⟩,
    ⟨(some 26), .op (.iaddrS (.tmp 24) (.tmp 25) 2), none⟩,
    ⟨(some 5), .op (.mv (.tmp 26)), none⟩]) (.kill [21, 22, 23, 24, 25, 26]))
  (.seq (.seq (.post (.reg [⟨(some 27), .op (.mv (.tmp 5)), none⟩,
    ⟨(some 28), .op (.nilc (.tmp 27)), none⟩,
    ⟨(some 29), .op (.faddr (.tmp 28) 0), none⟩,
    ⟨(some 30), .op (.load 1 false (.tmp 29)), none⟩,
    ⟨(some 31), .call (.func i_spec_l00In) [(.tmp 30), (.const (Value.int .i64 1)), (.const (Value.int .i64 8))], none⟩,
    ⟨(some 32), .op (.un .not (.tmp 31)), none⟩,
    ⟨(some 33), .op (.mv (.tmp 32)), none⟩,
    ⟨(some 34), .op (.mv (.tmp 5)), some (33, false)⟩,
    ⟨(some 35), .op (.nilc (.tmp 34)), some (33, false)⟩,
    ⟨(some 36), .op (.faddr (.tmp 35) 1), some (33, false)⟩,
    ⟨(some 37), .op (.load 1 false (.tmp 36)), some (33, false)⟩,
    ⟨(some 38), .op (.len false (.tmp 37)), some (33, false)⟩,
    ⟨(some 39), .op (.bin .gtr (.tmp 38) (.const (Value.int .i64 12))), some (33, false)⟩,
    ⟨(some 40), .op (.pick (.tmp 33) (.const (Value.bool true)) (.tmp 39)), none⟩]) (.kill [27, 28, 29, 30, 31, 32, 33, 34, 35, 36, 37, 38, 39]))
  (.cond (.tmp 40) (.ghost (.kill [0, 3, 4, 5, 40]) (.seq (.reg [⟨(some 2), .op (.mv (.const (Value.bool false))), none⟩])
  .ret))
  (.ghost (.kill [40]) .skip)))
  (.seq (.reg [⟨(some 6), .op (.mv (.const (Value.int .i64 0))), none⟩])
  (.block 2 lo_spec_l07Ok_0)))))
  (.ghost (.kill [5, 6]) (.post (.reg [⟨(some 19), .op (.mv (.tmp 4)), none⟩,
    ⟨(some 20), .op (.bin .add (.tmp 19) (.const (Value.int .i64 1))), none⟩,
    ⟨(some 4), .op (.mv (.tmp 20)), none⟩]) (.kill [19, 20])))))
def lo_spec_l07Ok_1 : AC := (.loop lb_spec_l07Ok_1)
def ac_spec_l07Ok : AC := (.seq (.post (.reg [⟨(some 2), .op (.mv (.const (Value.bool false))), none⟩]) (.kill [2]))
  (.seq (.post (.reg [⟨(some 8), .op (.mv (.tmp 0)), none⟩,
    ⟨(some 9), .op (.nilc (.tmp 8)), none⟩,
    ⟨(some 10), .op (.faddr (.tmp 9) 0), none⟩,
    ⟨(some 11), .op (.load 1 false (.tmp 10)), none⟩,
    ⟨(some 12), .op (.len false (.tmp 11)), none⟩,
    ⟨(some 3), .op (.mv (.tmp 12)), none⟩]) (.kill [8, 9, 10, 11, 12]))
  (.seq (.seq (.post (.reg [⟨(some 13), .op (.mv (.tmp 3)), none⟩,
    ⟨(some 14), .call (.func i_spec_l00In) [(.tmp 13), (.const (Value.int .i64 1)), (.const (Value.int .i64 4))], none⟩,
    ⟨(some 15), .op (.un .not (.tmp 14)), none⟩]) (.kill [13, 14]))
  (.cond (.tmp 15) (.ghost (.kill [0, 3, 15]) (.seq (.reg [⟨(some 2), .op (.mv (.const (Value.bool false))), none⟩])
  .ret))
  (.ghost (.kill [15]) .skip)))
  (.seq (.seq (.reg [⟨(some 4), .op (.mv (.const (Value.int .i64 0))), none⟩])
  (.block 0 lo_spec_l07Ok_1))
  (.ghost (.kill [0, 3, 4]) (.seq (.reg [⟨(some 2), .op (.mv (.const (Value.bool true))), none⟩])
  .ret))))))
theorem cf_spec_l07Ok : chkFn Try.prog i_spec_l07Ok ac_spec_l07Ok [.tmp 2] 121 = true := by decide +kernel
def fa_spec_l07Ok : FnA := ⟨ac_spec_l07Ok, [.tmp 2], 121, false, true⟩

/-- The checked code of spec ValidProgram. -/
def ac_spec_ValidProgram : AC := (.seq (.post (.reg [⟨(some 1), .op (.box true (.tmp 0)), none⟩,
    ⟨(some 2), .op (.mv (.const (Value.bool false))), none⟩]) (.kill [0, 2]))
  (.seq (.post (.reg [⟨(some 3), .call (.func i_spec_l07Ok) [(.tmp 1)], none⟩,
    ⟨(some 2), .op (.mv (.tmp 3)), none⟩]) (.kill [1, 3]))
  .ret))
theorem cf_spec_ValidProgram : chkFn Try.prog i_spec_ValidProgram ac_spec_ValidProgram [.tmp 2] 4 = true := by decide +kernel
def fa_spec_ValidProgram : FnA := ⟨ac_spec_ValidProgram, [.tmp 2], 4, false, true⟩

/-- The checked code of impl Module . -/
def ac_impl_size_impl_Module : AC := (.seq (.post (.reg [⟨(some 2), .op (.mv (.const (Value.int .i64 0))), none⟩]) (.kill [2]))
  (.seq (.post (.reg [⟨(some 3), .op (.mv (.tmp 0)), none⟩,
    ⟨(some 4), .op (.len false (.tmp 3)), none⟩,
    ⟨(some 2), .op (.mv (.tmp 4)), none⟩]) (.kill [0, 3, 4]))
  .ret))
theorem cf_impl_size_impl_Module : chkFn Try.prog i_impl_size_impl_Module ac_impl_size_impl_Module [.tmp 2] 5 = true := by decide +kernel
def fa_impl_size_impl_Module : FnA := ⟨ac_impl_size_impl_Module, [.tmp 2], 5, false, true⟩

/-- The checked code of impl Module . -/
def lb_slices_IndexFunc_L_impl_Module_0 : AC := (.seq (.reg [⟨(some 9), .op (.bin .lss (.tmp 8) (.tmp 7)), none⟩])
  (.seq (.cond (.tmp 9) (.ghost (.kill [9]) .skip)
  (.ghost (.kill [0, 1, 7, 8, 9]) (.exit 0)))
  (.seq (.block 1 (.seq (.post (.reg [⟨(some 10), .op (.mv (.tmp 8)), none⟩,
    ⟨(some 5), .op (.mv (.tmp 10)), none⟩]) (.kill [10]))
  (.seq (.post (.reg [⟨(some 11), .op (.mv (.tmp 1)), none⟩,
    ⟨(some 12), .op (.mv (.tmp 0)), none⟩,
    ⟨(some 13), .op (.mv (.tmp 5)), none⟩,
    ⟨(some 14), .op (.iaddrS (.tmp 12) (.tmp 13) 2), none⟩,
    ⟨(some 15), .op (.load 2 true (.tmp 14)), none⟩,
    ⟨(some 16), .call (.tmp 11) [(.tmp 15)], none⟩]) (.kill [11, 12, 13, 14, 15]))
  (.cond (.tmp 16) (.ghost (.kill [0, 1, 7, 8, 16]) (.seq (.post (.reg [⟨(some 17), .op (.mv (.tmp 5)), none⟩,
    ⟨(some 4), .op (.mv (.tmp 17)), none⟩]) (.kill [5, 17]))
  .ret))
  (.ghost (.kill [5, 16]) .skip)))))
  (.post (.reg [⟨(some 18), .op (.bin .add (.tmp 8) (.const (Value.int .i64 1))), none⟩,
    ⟨(some 8), .op (.mv (.tmp 18)), none⟩]) (.kill [18])))))
def lo_slices_IndexFunc_L_impl_Module_0 : AC := (.loop lb_slices_IndexFunc_L_impl_Module_0)
def ac_slices_IndexFunc_L_impl_Module : AC := (.seq (.post (.reg [⟨(some 4), .op (.mv (.const (Value.int .i64 0))), none⟩]) (.kill [4]))
  (.seq (.seq (.post (.reg [⟨(some 6), .op (.mv (.tmp 0)), none⟩,
    ⟨(some 7), .op (.len false (.tmp 6)), none⟩,
    ⟨(some 8), .op (.mv (.const (Value.int .i64 0))), none⟩]) (.kill [6]))
  (.block 0 lo_slices_IndexFunc_L_impl_Module_0))
  (.ghost (.kill [0, 1, 7, 8]) (.seq (.reg [⟨(some 4), .op (.mv (.const (Value.int .i64 (-1)))), none⟩])
  .ret))))
theorem cf_slices_IndexFunc_L_impl_Module : chkFn Try.prog i_slices_IndexFunc_L_impl_Module ac_slices_IndexFunc_L_impl_Module [.tmp 4] 19 = true := by decide +kernel
def fa_slices_IndexFunc_L_impl_Module : FnA := ⟨ac_slices_IndexFunc_L_impl_Module, [.tmp 4], 19, false, true⟩

/-- The checked code of impl Module . -/
def ac_slices_ContainsFunc_L_impl_Module : AC := (.seq (.post (.reg [⟨(some 4), .op (.mv (.const (Value.bool false))), none⟩]) (.kill [4]))
  (.seq (.post (.reg [⟨(some 5), .op (.mv (.tmp 0)), none⟩,
    ⟨(some 6), .op (.mv (.tmp 1)), none⟩,
    ⟨(some 7), .call (.func i_slices_IndexFunc_L_impl_Module) [(.tmp 5), (.tmp 6)], none⟩,
    ⟨(some 8), .op (.bin .geq (.tmp 7) (.const (Value.int .i64 0))), none⟩,
    ⟨(some 4), .op (.mv (.tmp 8)), none⟩]) (.kill [0, 1, 5, 6, 7, 8]))
  .ret))
theorem cf_slices_ContainsFunc_L_impl_Module : chkFn Try.prog i_slices_ContainsFunc_L_impl_Module ac_slices_ContainsFunc_L_impl_Module [.tmp 4] 9 = true := by decide +kernel
def fa_slices_ContainsFunc_L_impl_Module : FnA := ⟨ac_slices_ContainsFunc_L_impl_Module, [.tmp 4], 9, false, true⟩

/-- The checked code of impl Link . -/
def lb_slices_IndexFunc_L_impl_Link_0 : AC := (.seq (.reg [⟨(some 9), .op (.bin .lss (.tmp 8) (.tmp 7)), none⟩])
  (.seq (.cond (.tmp 9) (.ghost (.kill [9]) .skip)
  (.ghost (.kill [0, 1, 7, 8, 9]) (.exit 0)))
  (.seq (.block 1 (.seq (.post (.reg [⟨(some 10), .op (.mv (.tmp 8)), none⟩,
    ⟨(some 5), .op (.mv (.tmp 10)), none⟩]) (.kill [10]))
  (.seq (.post (.reg [⟨(some 11), .op (.mv (.tmp 1)), none⟩,
    ⟨(some 12), .op (.mv (.tmp 0)), none⟩,
    ⟨(some 13), .op (.mv (.tmp 5)), none⟩,
    ⟨(some 14), .op (.iaddrS (.tmp 12) (.tmp 13) 4), none⟩,
    ⟨(some 15), .op (.load 4 true (.tmp 14)), none⟩,
    ⟨(some 16), .call (.tmp 11) [(.tmp 15)], none⟩]) (.kill [11, 12, 13, 14, 15]))
  (.cond (.tmp 16) (.ghost (.kill [0, 1, 7, 8, 16]) (.seq (.post (.reg [⟨(some 17), .op (.mv (.tmp 5)), none⟩,
    ⟨(some 4), .op (.mv (.tmp 17)), none⟩]) (.kill [5, 17]))
  .ret))
  (.ghost (.kill [5, 16]) .skip)))))
  (.post (.reg [⟨(some 18), .op (.bin .add (.tmp 8) (.const (Value.int .i64 1))), none⟩,
    ⟨(some 8), .op (.mv (.tmp 18)), none⟩]) (.kill [18])))))
def lo_slices_IndexFunc_L_impl_Link_0 : AC := (.loop lb_slices_IndexFunc_L_impl_Link_0)
def ac_slices_IndexFunc_L_impl_Link : AC := (.seq (.post (.reg [⟨(some 4), .op (.mv (.const (Value.int .i64 0))), none⟩]) (.kill [4]))
  (.seq (.seq (.post (.reg [⟨(some 6), .op (.mv (.tmp 0)), none⟩,
    ⟨(some 7), .op (.len false (.tmp 6)), none⟩,
    ⟨(some 8), .op (.mv (.const (Value.int .i64 0))), none⟩]) (.kill [6]))
  (.block 0 lo_slices_IndexFunc_L_impl_Link_0))
  (.ghost (.kill [0, 1, 7, 8]) (.seq (.reg [⟨(some 4), .op (.mv (.const (Value.int .i64 (-1)))), none⟩])
  .ret))))
theorem cf_slices_IndexFunc_L_impl_Link : chkFn Try.prog i_slices_IndexFunc_L_impl_Link ac_slices_IndexFunc_L_impl_Link [.tmp 4] 19 = true := by decide +kernel
def fa_slices_IndexFunc_L_impl_Link : FnA := ⟨ac_slices_IndexFunc_L_impl_Link, [.tmp 4], 19, false, true⟩

/-- The checked code of impl Link . -/
def ac_slices_ContainsFunc_L_impl_Link : AC := (.seq (.post (.reg [⟨(some 4), .op (.mv (.const (Value.bool false))), none⟩]) (.kill [4]))
  (.seq (.post (.reg [⟨(some 5), .op (.mv (.tmp 0)), none⟩,
    ⟨(some 6), .op (.mv (.tmp 1)), none⟩,
    ⟨(some 7), .call (.func i_slices_IndexFunc_L_impl_Link) [(.tmp 5), (.tmp 6)], none⟩,
    ⟨(some 8), .op (.bin .geq (.tmp 7) (.const (Value.int .i64 0))), none⟩,
    ⟨(some 4), .op (.mv (.tmp 8)), none⟩]) (.kill [0, 1, 5, 6, 7, 8]))
  .ret))
theorem cf_slices_ContainsFunc_L_impl_Link : chkFn Try.prog i_slices_ContainsFunc_L_impl_Link ac_slices_ContainsFunc_L_impl_Link [.tmp 4] 9 = true := by decide +kernel
def fa_slices_ContainsFunc_L_impl_Link : FnA := ⟨ac_slices_ContainsFunc_L_impl_Link, [.tmp 4], 9, false, true⟩

/-- The checked code of impl isLetter. -/
def ac_impl_isLetter : AC := (.seq (.post (.reg [⟨(some 2), .op (.mv (.const (Value.bool false))), none⟩]) (.kill [2]))
  (.seq (.post (.reg [⟨(some 3), .op (.mv (.tmp 0)), none⟩,
    ⟨(some 4), .op (.bin .eql (.tmp 3) (.const (Value.string ⟨#[97]⟩))), none⟩,
    ⟨(some 5), .op (.mv (.tmp 4)), none⟩,
    ⟨(some 6), .op (.mv (.tmp 0)), some (5, false)⟩,
    ⟨(some 7), .op (.bin .eql (.tmp 6) (.const (Value.string ⟨#[98]⟩))), some (5, false)⟩,
    ⟨(some 8), .op (.pick (.tmp 5) (.const (Value.bool true)) (.tmp 7)), none⟩,
    ⟨(some 2), .op (.mv (.tmp 8)), none⟩]) (.kill [0, 3, 4, 5, 6, 7, 8]))
  .ret))
theorem cf_impl_isLetter : chkFn Try.prog i_impl_isLetter ac_impl_isLetter [.tmp 2] 9 = true := by decide +kernel
def fa_impl_isLetter : FnA := ⟨ac_impl_isLetter, [.tmp 2], 9, false, true⟩

/-- The checked code of impl ValidProgram 1 1. -/
def ac_impl_ValidProgram_1_1 : AC := (.seq (.post (.reg [⟨(some 3), .op (.box true (.tmp 0)), none⟩,
    ⟨(some 4), .op (.mv (.const (Value.bool false))), none⟩]) (.kill [0, 4]))
  (.seq (.seq (.post (.reg [⟨(some 5), .op (.faddr (.tmp 3) 0), none⟩,
    ⟨(some 6), .op (.load 1 false (.tmp 5)), none⟩,
    ⟨(some 7), .op (.faddr (.tmp 1) 0), none⟩,
    ⟨(some 8), .op (.load 1 false (.tmp 7)), none⟩,
    ⟨(some 9), .op (.bin .sub (.tmp 8) (.const (Value.int .i64 1))), none⟩,
    ⟨(some 10), .call (.func i_impl_within) [(.tmp 6), (.const (Value.int .i64 0)), (.tmp 9)], none⟩,
    ⟨(some 11), .op (.un .not (.tmp 10)), none⟩,
    ⟨(some 12), .op (.mv (.tmp 11)), none⟩,
    ⟨(some 13), .op (.faddr (.tmp 3) 1), some (12, false)⟩,
    ⟨(some 14), .op (.load 1 false (.tmp 13)), some (12, false)⟩,
    ⟨(some 15), .op (.faddr (.tmp 1) 0), some (12, false)⟩,
    ⟨(some 16), .op (.load 1 false (.tmp 15)), some (12, false)⟩,
    ⟨(some 17), .op (.bin .sub (.tmp 16) (.const (Value.int .i64 1))), some (12, false)⟩,
    ⟨(some 18), .call (.func i_impl_within) [(.tmp 14), (.const (Value.int .i64 0)), (.tmp 17)], some (12, false)⟩,
    ⟨(some 19), .op (.un .not (.tmp 18)), some (12, false)⟩,
    ⟨(some 20), .op (.pick (.tmp 12) (.const (Value.bool true)) (.tmp 19)), none⟩,
    ⟨(some 21), .op (.mv (.tmp 20)), none⟩,
    ⟨(some 22), .op (.faddr (.tmp 3) 3), some (21, false)⟩,
    ⟨(some 23), .op (.load 1 false (.tmp 22)), some (21, false)⟩,
    ⟨(some 24), .op (.load 1 false (.tmp 2)), some (21, false)⟩,
    ⟨(some 25), .op (.bin .sub (.tmp 24) (.const (Value.int .i64 1))), some (21, false)⟩,
    ⟨(some 26), .call (.func i_impl_within) [(.tmp 23), (.const (Value.int .i64 0)), (.tmp 25)], some (21, false)⟩,
    ⟨(some 27), .op (.un .not (.tmp 26)), some (21, false)⟩,
    ⟨(some 28), .op (.pick (.tmp 21) (.const (Value.bool true)) (.tmp 27)), none⟩]) (.kill [1, 2, 5, 6, 7, 8, 9, 10, 11, 12, 13, 14, 15, 16, 17, 18, 19, 20, 21, 22, 23, 24, 25, 26, 27]))
  (.cond (.tmp 28) (.ghost (.kill [3, 28]) (.seq (.reg [⟨(some 4), .op (.mv (.const (Value.bool true))), none⟩])
  .ret))
  (.ghost (.kill [28]) .skip)))
  (.seq (.post (.reg [⟨(some 29), .op (.faddr (.tmp 3) 2), none⟩,
    ⟨(some 30), .op (.load 1 false (.tmp 29)), none⟩,
    ⟨(some 31), .call (.func i_impl_isBrackets) [(.tmp 30)], none⟩,
    ⟨(some 32), .op (.un .not (.tmp 31)), none⟩,
    ⟨(some 33), .op (.mv (.tmp 32)), none⟩,
    ⟨(some 34), .op (.faddr (.tmp 3) 2), some (33, true)⟩,
    ⟨(some 35), .op (.load 1 false (.tmp 34)), some (33, true)⟩,
    ⟨(some 36), .call (.func i_impl_isLetter) [(.tmp 35)], some (33, true)⟩,
    ⟨(some 37), .op (.un .not (.tmp 36)), some (33, true)⟩,
    ⟨(some 38), .op (.mv (.tmp 37)), some (33, true)⟩,
    ⟨(some 39), .op (.faddr (.tmp 3) 3), some (38, false)⟩,
    ⟨(some 40), .op (.load 1 false (.tmp 39)), some (38, false)⟩,
    ⟨(some 41), .op (.bin .neq (.tmp 40) (.const (Value.int .i64 0))), some (38, false)⟩,
    ⟨(some 42), .op (.pick (.tmp 38) (.const (Value.bool true)) (.tmp 41)), some (33, true)⟩,
    ⟨(some 43), .op (.pick (.tmp 33) (.tmp 42) (.const (Value.bool false))), none⟩,
    ⟨(some 4), .op (.mv (.tmp 43)), none⟩]) (.kill [3, 29, 30, 31, 32, 33, 34, 35, 36, 37, 38, 39, 40, 41, 42, 43]))
  .ret)))
theorem cf_impl_ValidProgram_1_1 : chkFn Try.prog i_impl_ValidProgram_1_1 ac_impl_ValidProgram_1_1 [.tmp 4] 44 = true := by decide +kernel
def fa_impl_ValidProgram_1_1 : FnA := ⟨ac_impl_ValidProgram_1_1, [.tmp 4], 44, false, true⟩

/-- The checked code of impl ValidProgram 1. -/
def ac_impl_ValidProgram_1 : AC := (.seq (.post (.reg [⟨(some 2), .op (.box true (.tmp 0)), none⟩,
    ⟨(some 3), .op (.mv (.const (Value.bool false))), none⟩]) (.kill [0, 3]))
  (.seq (.post (.reg [⟨(some 4), .op (.faddr (.tmp 2) 0), none⟩,
    ⟨(some 5), .op (.load 1 false (.tmp 4)), none⟩,
    ⟨(some 6), .call (.func i_impl_within) [(.tmp 5), (.const (Value.int .i64 1)), (.const (Value.int .i64 8))], none⟩,
    ⟨(some 7), .op (.un .not (.tmp 6)), none⟩,
    ⟨(some 8), .op (.mv (.tmp 7)), none⟩,
    ⟨(some 9), .op (.faddr (.tmp 2) 1), some (8, false)⟩,
    ⟨(some 10), .op (.load 1 false (.tmp 9)), some (8, false)⟩,
    ⟨(some 11), .op (.len false (.tmp 10)), some (8, false)⟩,
    ⟨(some 12), .op (.bin .gtr (.tmp 11) (.const (Value.int .i64 12))), some (8, false)⟩,
    ⟨(some 13), .op (.pick (.tmp 8) (.const (Value.bool true)) (.tmp 12)), none⟩,
    ⟨(some 14), .op (.mv (.tmp 13)), none⟩,
    ⟨(some 15), .op (.faddr (.tmp 2) 1), some (14, false)⟩,
    ⟨(some 16), .op (.load 1 false (.tmp 15)), some (14, false)⟩,
    ⟨(some 17), .op (.mkfn i_impl_ValidProgram_1_1 [(.tmp 2), (.tmp 1)]), some (14, false)⟩,
    ⟨(some 18), .call (.func i_slices_ContainsFunc_L_impl_Link) [(.tmp 16), (.tmp 17)], some (14, false)⟩,
    ⟨(some 19), .op (.pick (.tmp 14) (.const (Value.bool true)) (.tmp 18)), none⟩,
    ⟨(some 3), .op (.mv (.tmp 19)), none⟩]) (.kill [1, 2, 4, 5, 6, 7, 8, 9, 10, 11, 12, 13, 14, 15, 16, 17, 18, 19]))
  .ret))
theorem cf_impl_ValidProgram_1 : chkFn Try.prog i_impl_ValidProgram_1 ac_impl_ValidProgram_1 [.tmp 3] 20 = true := by decide +kernel
def fa_impl_ValidProgram_1 : FnA := ⟨ac_impl_ValidProgram_1, [.tmp 3], 20, false, true⟩

/-- The checked code of impl ValidProgram. -/
def ac_impl_ValidProgram : AC := (.seq (.post (.reg [⟨(some 1), .op (.box true (.tmp 0)), none⟩,
    ⟨(some 2), .op (.mv (.const (Value.bool false))), none⟩]) (.kill [0, 2]))
  (.seq (.post (.reg [⟨(some 4), .op (.faddr (.tmp 1) 0), none⟩,
    ⟨(some 5), .op (.load 1 false (.tmp 4)), none⟩,
    ⟨(some 6), .call (.func i_impl_size_impl_Module) [(.tmp 5)], none⟩,
    ⟨(some 3), .op (.alloc (Value.int .i64 0)), none⟩,
    ⟨none, .op (.store 1 (.tmp 3) (.tmp 6)), none⟩]) (.kill [4, 5, 6]))
  (.seq (.post (.reg [⟨(some 7), .op (.load 1 false (.tmp 3)), none⟩,
    ⟨(some 8), .call (.func i_impl_within) [(.tmp 7), (.const (Value.int .i64 1)), (.const (Value.int .i64 4))], none⟩,
    ⟨(some 9), .op (.mv (.tmp 8)), none⟩,
    ⟨(some 10), .op (.faddr (.tmp 1) 0), some (9, true)⟩,
    ⟨(some 11), .op (.load 1 false (.tmp 10)), some (9, true)⟩,
    ⟨(some 12), .op (.mkfn i_impl_ValidProgram_1 [(.tmp 3)]), some (9, true)⟩,
    ⟨(some 13), .call (.func i_slices_ContainsFunc_L_impl_Module) [(.tmp 11), (.tmp 12)], some (9, true)⟩,
    ⟨(some 14), .op (.un .not (.tmp 13)), some (9, true)⟩,
    ⟨(some 15), .op (.pick (.tmp 9) (.tmp 14) (.const (Value.bool false))), none⟩,
    ⟨(some 2), .op (.mv (.tmp 15)), none⟩]) (.kill [1, 3, 7, 8, 9, 10, 11, 12, 13, 14, 15]))
  .ret)))
theorem cf_impl_ValidProgram : chkFn Try.prog i_impl_ValidProgram ac_impl_ValidProgram [.tmp 2] 16 = true := by decide +kernel
def fa_impl_ValidProgram : FnA := ⟨ac_impl_ValidProgram, [.tmp 2], 16, false, true⟩

/-- The checked code of laws FnExactValidProgram. -/
def ac_laws_FnExactValidProgram : AC := (.seq (.post (.reg [⟨(some 1), .op (.box true (.tmp 0)), none⟩,
    ⟨(some 2), .op (.mv (.const (Value.bool false))), none⟩]) (.kill [0, 2]))
  (.seq (.reg [⟨(some 3), .op (.mv (.const (Value.int .i64 1048576))), none⟩])
  (.seq (.post (.reg [⟨(some 7), .op (.load 1 true (.tmp 1)), none⟩,
    ⟨(some 8), .op (.mv (.tmp 3)), none⟩,
    ⟨(some 9), .call (.func i_laws_szProgram) [(.tmp 7), (.tmp 8)], none⟩,
    ⟨(some 3), .op (.mv (.tmp 9)), none⟩]) (.kill [7, 8, 9]))
  (.seq (.seq (.post (.reg [⟨(some 10), .op (.mv (.tmp 3)), none⟩,
    ⟨(some 11), .op (.bin .lss (.tmp 10) (.const (Value.int .i64 0))), none⟩]) (.kill [3, 10]))
  (.cond (.tmp 11) (.ghost (.kill [1, 11]) (.seq (.reg [⟨(some 2), .op (.mv (.const (Value.bool true))), none⟩])
  .ret))
  (.ghost (.kill [11]) .skip)))
  (.seq (.post (.reg [⟨(some 12), .op (.load 1 true (.tmp 1)), none⟩,
    ⟨(some 13), .call (.func i_laws_toProgram) [(.tmp 12)], none⟩,
    ⟨(some 14), .call (.func i_spec_ValidProgram) [(.tmp 13)], none⟩,
    ⟨(some 4), .op (.mv (.tmp 14)), none⟩]) (.kill [12, 13, 14]))
  (.seq (.post (.reg [⟨(some 15), .op (.load 1 true (.tmp 1)), none⟩,
    ⟨(some 16), .call (.func i_laws_toProgram) [(.tmp 15)], none⟩,
    ⟨(some 5), .op (.alloc (Value.agg #[Value.slice none 0 0])), none⟩,
    ⟨none, .op (.store 1 (.tmp 5) (.tmp 16)), none⟩]) (.kill [15, 16]))
  (.seq (.post (.reg [⟨(some 17), .op (.load 1 true (.tmp 5)), none⟩,
    ⟨(some 18), .call (.func i_impl_ValidProgram) [(.tmp 17)], none⟩,
    ⟨(some 6), .op (.mv (.tmp 18)), none⟩]) (.kill [17, 18]))
  (.seq (.seq (.post (.reg [⟨(some 19), .op (.mv (.tmp 6)), none⟩,
    ⟨(some 20), .op (.mv (.tmp 4)), none⟩,
    ⟨(some 21), .op (.eqb true (.tmp 19) (.tmp 20)), none⟩]) (.kill [4, 6, 19, 20]))
  (.cond (.tmp 21) (.ghost (.kill [1, 5, 21]) (.seq (.reg [⟨(some 2), .op (.mv (.const (Value.bool false))), none⟩])
  .ret))
  (.ghost (.kill [21]) .skip)))
  (.seq (.seq (.post (.draw [⟨0, ⟨(some 22), .op (.load 1 true (.tmp 5)), none⟩, []⟩,
    ⟨1, ⟨(some 23), .op (.load 1 true (.tmp 1)), none⟩, []⟩,
    ⟨2, ⟨(some 24), .call (.func i_laws_toProgram) [(.tmp 23)], none⟩, [0]⟩,
    ⟨3, ⟨(some 25), .call (.func i_laws_eqProgram) [(.tmp 22), (.tmp 24)], none⟩, []⟩,
    ⟨4, ⟨(some 26), .op (.un .not (.tmp 25)), none⟩, []⟩]
    [0, 0, 2, 7, 15]) (.kill [1, 5, 22, 23, 24, 25]))
  (.cond (.tmp 26) (.ghost (.kill [26]) (.seq (.reg [⟨(some 2), .op (.mv (.const (Value.bool false))), none⟩])
  .ret))
  (.ghost (.kill [26]) .skip)))
  (.seq (.reg [⟨(some 2), .op (.mv (.const (Value.bool true))), none⟩])
  .ret))))))))))
theorem cf_laws_FnExactValidProgram : chkFn Try.prog i_laws_FnExactValidProgram ac_laws_FnExactValidProgram [.tmp 2] 27 = true := by decide +kernel
def fa_laws_FnExactValidProgram : FnA := ⟨ac_laws_FnExactValidProgram, [.tmp 2], 27, false, true⟩

/-- The checked code of laws eqOutPush. -/
def ac_laws_eqOutPush : AC := (.seq (.post (.reg [⟨(some 2), .op (.box true (.tmp 0)), none⟩,
    ⟨(some 3), .op (.box true (.tmp 1)), none⟩,
    ⟨(some 4), .op (.mv (.const (Value.bool false))), none⟩]) (.kill [0, 1, 4]))
  (.seq (.seq (.post (.reg [⟨(some 5), .op (.faddr (.tmp 2) 0), none⟩,
    ⟨(some 6), .op (.load 1 false (.tmp 5)), none⟩,
    ⟨(some 7), .op (.faddr (.tmp 3) 0), none⟩,
    ⟨(some 8), .op (.load 1 false (.tmp 7)), none⟩,
    ⟨(some 9), .op (.bin .neq (.tmp 6) (.tmp 8)), none⟩]) (.kill [5, 6, 7, 8]))
  (.cond (.tmp 9) (.ghost (.kill [2, 3, 9]) (.seq (.reg [⟨(some 4), .op (.mv (.const (Value.bool false))), none⟩])
  .ret))
  (.ghost (.kill [9]) .skip)))
  (.seq (.seq (.post (.reg [⟨(some 10), .op (.faddr (.tmp 2) 1), none⟩,
    ⟨(some 11), .op (.load 1 false (.tmp 10)), none⟩,
    ⟨(some 12), .op (.faddr (.tmp 3) 1), none⟩,
    ⟨(some 13), .op (.load 1 false (.tmp 12)), none⟩,
    ⟨(some 14), .op (.bin .neq (.tmp 11) (.tmp 13)), none⟩]) (.kill [10, 11, 12, 13]))
  (.cond (.tmp 14) (.ghost (.kill [2, 3, 14]) (.seq (.reg [⟨(some 4), .op (.mv (.const (Value.bool false))), none⟩])
  .ret))
  (.ghost (.kill [14]) .skip)))
  (.seq (.seq (.post (.reg [⟨(some 15), .op (.faddr (.tmp 2) 2), none⟩,
    ⟨(some 16), .op (.load 1 false (.tmp 15)), none⟩,
    ⟨(some 17), .op (.faddr (.tmp 3) 2), none⟩,
    ⟨(some 18), .op (.load 1 false (.tmp 17)), none⟩,
    ⟨(some 19), .op (.bin .neq (.tmp 16) (.tmp 18)), none⟩]) (.kill [2, 3, 15, 16, 17, 18]))
  (.cond (.tmp 19) (.ghost (.kill [19]) (.seq (.reg [⟨(some 4), .op (.mv (.const (Value.bool false))), none⟩])
  .ret))
  (.ghost (.kill [19]) .skip)))
  (.seq (.reg [⟨(some 4), .op (.mv (.const (Value.bool true))), none⟩])
  .ret)))))
theorem cf_laws_eqOutPush : chkFn Try.prog i_laws_eqOutPush ac_laws_eqOutPush [.tmp 4] 20 = true := by decide +kernel
def fa_laws_eqOutPush : FnA := ⟨ac_laws_eqOutPush, [.tmp 4], 20, false, true⟩

/-- The checked code of laws eqOutPushS. -/
def lb_laws_eqOutPushS_0 : AC := (.seq (.seq (.post (.reg [⟨(some 11), .op (.mv (.tmp 5)), none⟩,
    ⟨(some 12), .op (.mv (.tmp 0)), none⟩,
    ⟨(some 13), .op (.len false (.tmp 12)), none⟩,
    ⟨(some 14), .op (.bin .lss (.tmp 11) (.tmp 13)), none⟩]) (.kill [11, 12, 13]))
  (.cond (.tmp 14) (.ghost (.kill [14]) .skip)
  (.ghost (.kill [0, 1, 5, 14]) (.exit 0))))
  (.seq (.block 1 (.seq (.post (.draw [⟨0, ⟨(some 17), .op (.mv (.tmp 0)), none⟩, []⟩,
    ⟨1, ⟨(some 18), .op (.mv (.tmp 5)), none⟩, []⟩,
    ⟨2, ⟨(some 19), .op (.iaddrS (.tmp 17) (.tmp 18) 3), none⟩, []⟩,
    ⟨3, ⟨(some 20), .op (.load 3 true (.tmp 19)), none⟩, []⟩,
    ⟨4, ⟨(some 21), .op (.mv (.tmp 1)), none⟩, []⟩,
    ⟨5, ⟨(some 22), .op (.mv (.tmp 5)), none⟩, []⟩,
    ⟨6, ⟨(some 23), .op (.iaddrS (.tmp 21) (.tmp 22) 3), none⟩, []⟩,
    ⟨7, ⟨(some 24), .op (.load 3 true (.tmp 23)), none⟩, []⟩,
    ⟨8, ⟨(some 25), .call (.func i_laws_eqOutPush) [(.tmp 20), (.tmp 24)], none⟩, []⟩,
    ⟨9, ⟨(some 26), .op (.un .not (.tmp 25)), none⟩, []⟩]
    [0, 0, 3, 7, 0, 0, 48, 112, 255, 511]) (.kill [17, 18, 19, 20, 21, 22, 23, 24, 25]))
  (.cond (.tmp 26) (.ghost (.kill [0, 1, 5, 26]) (.seq (.reg [⟨(some 4), .op (.mv (.const (Value.bool false))), none⟩])
  .ret))
  (.ghost (.kill [26]) .skip))))
  (.post (.reg [⟨(some 15), .op (.mv (.tmp 5)), none⟩,
    ⟨(some 16), .op (.bin .add (.tmp 15) (.const (Value.int .i64 1))), none⟩,
    ⟨(some 5), .op (.mv (.tmp 16)), none⟩]) (.kill [15, 16]))))
def lo_laws_eqOutPushS_0 : AC := (.loop lb_laws_eqOutPushS_0)
def ac_laws_eqOutPushS : AC := (.seq (.post (.reg [⟨(some 4), .op (.mv (.const (Value.bool false))), none⟩]) (.kill [4]))
  (.seq (.seq (.post (.reg [⟨(some 6), .op (.mv (.tmp 0)), none⟩,
    ⟨(some 7), .op (.len false (.tmp 6)), none⟩,
    ⟨(some 8), .op (.mv (.tmp 1)), none⟩,
    ⟨(some 9), .op (.len false (.tmp 8)), none⟩,
    ⟨(some 10), .op (.bin .neq (.tmp 7) (.tmp 9)), none⟩]) (.kill [6, 7, 8, 9]))
  (.cond (.tmp 10) (.ghost (.kill [0, 1, 10]) (.seq (.reg [⟨(some 4), .op (.mv (.const (Value.bool false))), none⟩])
  .ret))
  (.ghost (.kill [10]) .skip)))
  (.seq (.seq (.reg [⟨(some 5), .op (.mv (.const (Value.int .i64 0))), none⟩])
  (.block 0 lo_laws_eqOutPushS_0))
  (.ghost (.kill [0, 1, 5]) (.seq (.reg [⟨(some 4), .op (.mv (.const (Value.bool true))), none⟩])
  .ret)))))
theorem cf_laws_eqOutPushS : chkFn Try.prog i_laws_eqOutPushS ac_laws_eqOutPushS [.tmp 4] 27 = true := by decide +kernel
def fa_laws_eqOutPushS : FnA := ⟨ac_laws_eqOutPushS, [.tmp 4], 27, false, true⟩

/-- The checked code of laws eqOutPushSS. -/
def lb_laws_eqOutPushSS_0 : AC := (.seq (.seq (.post (.reg [⟨(some 11), .op (.mv (.tmp 5)), none⟩,
    ⟨(some 12), .op (.mv (.tmp 0)), none⟩,
    ⟨(some 13), .op (.len false (.tmp 12)), none⟩,
    ⟨(some 14), .op (.bin .lss (.tmp 11) (.tmp 13)), none⟩]) (.kill [11, 12, 13]))
  (.cond (.tmp 14) (.ghost (.kill [14]) .skip)
  (.ghost (.kill [0, 1, 5, 14]) (.exit 0))))
  (.seq (.block 1 (.seq (.post (.draw [⟨0, ⟨(some 17), .op (.mv (.tmp 0)), none⟩, []⟩,
    ⟨1, ⟨(some 18), .op (.mv (.tmp 5)), none⟩, []⟩,
    ⟨2, ⟨(some 19), .op (.iaddrS (.tmp 17) (.tmp 18) 1), none⟩, []⟩,
    ⟨3, ⟨(some 20), .op (.load 1 false (.tmp 19)), none⟩, []⟩,
    ⟨4, ⟨(some 21), .op (.mv (.tmp 1)), none⟩, []⟩,
    ⟨5, ⟨(some 22), .op (.mv (.tmp 5)), none⟩, []⟩,
    ⟨6, ⟨(some 23), .op (.iaddrS (.tmp 21) (.tmp 22) 1), none⟩, []⟩,
    ⟨7, ⟨(some 24), .op (.load 1 false (.tmp 23)), none⟩, []⟩,
    ⟨8, ⟨(some 25), .call (.func i_laws_eqOutPushS) [(.tmp 20), (.tmp 24)], none⟩, []⟩,
    ⟨9, ⟨(some 26), .op (.un .not (.tmp 25)), none⟩, []⟩]
    [0, 0, 3, 7, 0, 0, 48, 112, 255, 511]) (.kill [17, 18, 19, 20, 21, 22, 23, 24, 25]))
  (.cond (.tmp 26) (.ghost (.kill [0, 1, 5, 26]) (.seq (.reg [⟨(some 4), .op (.mv (.const (Value.bool false))), none⟩])
  .ret))
  (.ghost (.kill [26]) .skip))))
  (.post (.reg [⟨(some 15), .op (.mv (.tmp 5)), none⟩,
    ⟨(some 16), .op (.bin .add (.tmp 15) (.const (Value.int .i64 1))), none⟩,
    ⟨(some 5), .op (.mv (.tmp 16)), none⟩]) (.kill [15, 16]))))
def lo_laws_eqOutPushSS_0 : AC := (.loop lb_laws_eqOutPushSS_0)
def ac_laws_eqOutPushSS : AC := (.seq (.post (.reg [⟨(some 4), .op (.mv (.const (Value.bool false))), none⟩]) (.kill [4]))
  (.seq (.seq (.post (.reg [⟨(some 6), .op (.mv (.tmp 0)), none⟩,
    ⟨(some 7), .op (.len false (.tmp 6)), none⟩,
    ⟨(some 8), .op (.mv (.tmp 1)), none⟩,
    ⟨(some 9), .op (.len false (.tmp 8)), none⟩,
    ⟨(some 10), .op (.bin .neq (.tmp 7) (.tmp 9)), none⟩]) (.kill [6, 7, 8, 9]))
  (.cond (.tmp 10) (.ghost (.kill [0, 1, 10]) (.seq (.reg [⟨(some 4), .op (.mv (.const (Value.bool false))), none⟩])
  .ret))
  (.ghost (.kill [10]) .skip)))
  (.seq (.seq (.reg [⟨(some 5), .op (.mv (.const (Value.int .i64 0))), none⟩])
  (.block 0 lo_laws_eqOutPushSS_0))
  (.ghost (.kill [0, 1, 5]) (.seq (.reg [⟨(some 4), .op (.mv (.const (Value.bool true))), none⟩])
  .ret)))))
theorem cf_laws_eqOutPushSS : chkFn Try.prog i_laws_eqOutPushSS ac_laws_eqOutPushSS [.tmp 4] 27 = true := by decide +kernel
def fa_laws_eqOutPushSS : FnA := ⟨ac_laws_eqOutPushSS, [.tmp 4], 27, false, true⟩

/-- The checked code of laws eqOutMove. -/
def ac_laws_eqOutMove : AC := (.seq (.post (.reg [⟨(some 2), .op (.box true (.tmp 0)), none⟩,
    ⟨(some 3), .op (.box true (.tmp 1)), none⟩,
    ⟨(some 4), .op (.mv (.const (Value.bool false))), none⟩]) (.kill [0, 1, 4]))
  (.seq (.seq (.post (.reg [⟨(some 5), .op (.faddr (.tmp 2) 0), none⟩,
    ⟨(some 6), .op (.load 1 false (.tmp 5)), none⟩,
    ⟨(some 7), .op (.faddr (.tmp 3) 0), none⟩,
    ⟨(some 8), .op (.load 1 false (.tmp 7)), none⟩,
    ⟨(some 9), .op (.bin .neq (.tmp 6) (.tmp 8)), none⟩]) (.kill [5, 6, 7, 8]))
  (.cond (.tmp 9) (.ghost (.kill [2, 3, 9]) (.seq (.reg [⟨(some 4), .op (.mv (.const (Value.bool false))), none⟩])
  .ret))
  (.ghost (.kill [9]) .skip)))
  (.seq (.seq (.post (.reg [⟨(some 10), .op (.faddr (.tmp 2) 1), none⟩,
    ⟨(some 11), .op (.load 1 false (.tmp 10)), none⟩,
    ⟨(some 12), .op (.faddr (.tmp 3) 1), none⟩,
    ⟨(some 13), .op (.load 1 false (.tmp 12)), none⟩,
    ⟨(some 14), .op (.bin .neq (.tmp 11) (.tmp 13)), none⟩]) (.kill [2, 3, 10, 11, 12, 13]))
  (.cond (.tmp 14) (.ghost (.kill [14]) (.seq (.reg [⟨(some 4), .op (.mv (.const (Value.bool false))), none⟩])
  .ret))
  (.ghost (.kill [14]) .skip)))
  (.seq (.reg [⟨(some 4), .op (.mv (.const (Value.bool true))), none⟩])
  .ret))))
theorem cf_laws_eqOutMove : chkFn Try.prog i_laws_eqOutMove ac_laws_eqOutMove [.tmp 4] 15 = true := by decide +kernel
def fa_laws_eqOutMove : FnA := ⟨ac_laws_eqOutMove, [.tmp 4], 15, false, true⟩

/-- The checked code of laws eqOutMoveS. -/
def lb_laws_eqOutMoveS_0 : AC := (.seq (.seq (.post (.reg [⟨(some 11), .op (.mv (.tmp 5)), none⟩,
    ⟨(some 12), .op (.mv (.tmp 0)), none⟩,
    ⟨(some 13), .op (.len false (.tmp 12)), none⟩,
    ⟨(some 14), .op (.bin .lss (.tmp 11) (.tmp 13)), none⟩]) (.kill [11, 12, 13]))
  (.cond (.tmp 14) (.ghost (.kill [14]) .skip)
  (.ghost (.kill [0, 1, 5, 14]) (.exit 0))))
  (.seq (.block 1 (.seq (.post (.draw [⟨0, ⟨(some 17), .op (.mv (.tmp 0)), none⟩, []⟩,
    ⟨1, ⟨(some 18), .op (.mv (.tmp 5)), none⟩, []⟩,
    ⟨2, ⟨(some 19), .op (.iaddrS (.tmp 17) (.tmp 18) 2), none⟩, []⟩,
    ⟨3, ⟨(some 20), .op (.load 2 true (.tmp 19)), none⟩, []⟩,
    ⟨4, ⟨(some 21), .op (.mv (.tmp 1)), none⟩, []⟩,
    ⟨5, ⟨(some 22), .op (.mv (.tmp 5)), none⟩, []⟩,
    ⟨6, ⟨(some 23), .op (.iaddrS (.tmp 21) (.tmp 22) 2), none⟩, []⟩,
    ⟨7, ⟨(some 24), .op (.load 2 true (.tmp 23)), none⟩, []⟩,
    ⟨8, ⟨(some 25), .call (.func i_laws_eqOutMove) [(.tmp 20), (.tmp 24)], none⟩, []⟩,
    ⟨9, ⟨(some 26), .op (.un .not (.tmp 25)), none⟩, []⟩]
    [0, 0, 3, 7, 0, 0, 48, 112, 255, 511]) (.kill [17, 18, 19, 20, 21, 22, 23, 24, 25]))
  (.cond (.tmp 26) (.ghost (.kill [0, 1, 5, 26]) (.seq (.reg [⟨(some 4), .op (.mv (.const (Value.bool false))), none⟩])
  .ret))
  (.ghost (.kill [26]) .skip))))
  (.post (.reg [⟨(some 15), .op (.mv (.tmp 5)), none⟩,
    ⟨(some 16), .op (.bin .add (.tmp 15) (.const (Value.int .i64 1))), none⟩,
    ⟨(some 5), .op (.mv (.tmp 16)), none⟩]) (.kill [15, 16]))))
def lo_laws_eqOutMoveS_0 : AC := (.loop lb_laws_eqOutMoveS_0)
def ac_laws_eqOutMoveS : AC := (.seq (.post (.reg [⟨(some 4), .op (.mv (.const (Value.bool false))), none⟩]) (.kill [4]))
  (.seq (.seq (.post (.reg [⟨(some 6), .op (.mv (.tmp 0)), none⟩,
    ⟨(some 7), .op (.len false (.tmp 6)), none⟩,
    ⟨(some 8), .op (.mv (.tmp 1)), none⟩,
    ⟨(some 9), .op (.len false (.tmp 8)), none⟩,
    ⟨(some 10), .op (.bin .neq (.tmp 7) (.tmp 9)), none⟩]) (.kill [6, 7, 8, 9]))
  (.cond (.tmp 10) (.ghost (.kill [0, 1, 10]) (.seq (.reg [⟨(some 4), .op (.mv (.const (Value.bool false))), none⟩])
  .ret))
  (.ghost (.kill [10]) .skip)))
  (.seq (.seq (.reg [⟨(some 5), .op (.mv (.const (Value.int .i64 0))), none⟩])
  (.block 0 lo_laws_eqOutMoveS_0))
  (.ghost (.kill [0, 1, 5]) (.seq (.reg [⟨(some 4), .op (.mv (.const (Value.bool true))), none⟩])
  .ret)))))
theorem cf_laws_eqOutMoveS : chkFn Try.prog i_laws_eqOutMoveS ac_laws_eqOutMoveS [.tmp 4] 27 = true := by decide +kernel
def fa_laws_eqOutMoveS : FnA := ⟨ac_laws_eqOutMoveS, [.tmp 4], 27, false, true⟩

/-- The checked code of laws eqOutMoveSS. -/
def lb_laws_eqOutMoveSS_0 : AC := (.seq (.seq (.post (.reg [⟨(some 11), .op (.mv (.tmp 5)), none⟩,
    ⟨(some 12), .op (.mv (.tmp 0)), none⟩,
    ⟨(some 13), .op (.len false (.tmp 12)), none⟩,
    ⟨(some 14), .op (.bin .lss (.tmp 11) (.tmp 13)), none⟩]) (.kill [11, 12, 13]))
  (.cond (.tmp 14) (.ghost (.kill [14]) .skip)
  (.ghost (.kill [0, 1, 5, 14]) (.exit 0))))
  (.seq (.block 1 (.seq (.post (.draw [⟨0, ⟨(some 17), .op (.mv (.tmp 0)), none⟩, []⟩,
    ⟨1, ⟨(some 18), .op (.mv (.tmp 5)), none⟩, []⟩,
    ⟨2, ⟨(some 19), .op (.iaddrS (.tmp 17) (.tmp 18) 1), none⟩, []⟩,
    ⟨3, ⟨(some 20), .op (.load 1 false (.tmp 19)), none⟩, []⟩,
    ⟨4, ⟨(some 21), .op (.mv (.tmp 1)), none⟩, []⟩,
    ⟨5, ⟨(some 22), .op (.mv (.tmp 5)), none⟩, []⟩,
    ⟨6, ⟨(some 23), .op (.iaddrS (.tmp 21) (.tmp 22) 1), none⟩, []⟩,
    ⟨7, ⟨(some 24), .op (.load 1 false (.tmp 23)), none⟩, []⟩,
    ⟨8, ⟨(some 25), .call (.func i_laws_eqOutMoveS) [(.tmp 20), (.tmp 24)], none⟩, []⟩,
    ⟨9, ⟨(some 26), .op (.un .not (.tmp 25)), none⟩, []⟩]
    [0, 0, 3, 7, 0, 0, 48, 112, 255, 511]) (.kill [17, 18, 19, 20, 21, 22, 23, 24, 25]))
  (.cond (.tmp 26) (.ghost (.kill [0, 1, 5, 26]) (.seq (.reg [⟨(some 4), .op (.mv (.const (Value.bool false))), none⟩])
  .ret))
  (.ghost (.kill [26]) .skip))))
  (.post (.reg [⟨(some 15), .op (.mv (.tmp 5)), none⟩,
    ⟨(some 16), .op (.bin .add (.tmp 15) (.const (Value.int .i64 1))), none⟩,
    ⟨(some 5), .op (.mv (.tmp 16)), none⟩]) (.kill [15, 16]))))
def lo_laws_eqOutMoveSS_0 : AC := (.loop lb_laws_eqOutMoveSS_0)
def ac_laws_eqOutMoveSS : AC := (.seq (.post (.reg [⟨(some 4), .op (.mv (.const (Value.bool false))), none⟩]) (.kill [4]))
  (.seq (.seq (.post (.reg [⟨(some 6), .op (.mv (.tmp 0)), none⟩,
    ⟨(some 7), .op (.len false (.tmp 6)), none⟩,
    ⟨(some 8), .op (.mv (.tmp 1)), none⟩,
    ⟨(some 9), .op (.len false (.tmp 8)), none⟩,
    ⟨(some 10), .op (.bin .neq (.tmp 7) (.tmp 9)), none⟩]) (.kill [6, 7, 8, 9]))
  (.cond (.tmp 10) (.ghost (.kill [0, 1, 10]) (.seq (.reg [⟨(some 4), .op (.mv (.const (Value.bool false))), none⟩])
  .ret))
  (.ghost (.kill [10]) .skip)))
  (.seq (.seq (.reg [⟨(some 5), .op (.mv (.const (Value.int .i64 0))), none⟩])
  (.block 0 lo_laws_eqOutMoveSS_0))
  (.ghost (.kill [0, 1, 5]) (.seq (.reg [⟨(some 4), .op (.mv (.const (Value.bool true))), none⟩])
  .ret)))))
theorem cf_laws_eqOutMoveSS : chkFn Try.prog i_laws_eqOutMoveSS ac_laws_eqOutMoveSS [.tmp 4] 27 = true := by decide +kernel
def fa_laws_eqOutMoveSS : FnA := ⟨ac_laws_eqOutMoveSS, [.tmp 4], 27, false, true⟩

/-- The checked code of laws eqOutMoveSSS. -/
def lb_laws_eqOutMoveSSS_0 : AC := (.seq (.seq (.post (.reg [⟨(some 11), .op (.mv (.tmp 5)), none⟩,
    ⟨(some 12), .op (.mv (.tmp 0)), none⟩,
    ⟨(some 13), .op (.len false (.tmp 12)), none⟩,
    ⟨(some 14), .op (.bin .lss (.tmp 11) (.tmp 13)), none⟩]) (.kill [11, 12, 13]))
  (.cond (.tmp 14) (.ghost (.kill [14]) .skip)
  (.ghost (.kill [0, 1, 5, 14]) (.exit 0))))
  (.seq (.block 1 (.seq (.post (.draw [⟨0, ⟨(some 17), .op (.mv (.tmp 0)), none⟩, []⟩,
    ⟨1, ⟨(some 18), .op (.mv (.tmp 5)), none⟩, []⟩,
    ⟨2, ⟨(some 19), .op (.iaddrS (.tmp 17) (.tmp 18) 1), none⟩, []⟩,
    ⟨3, ⟨(some 20), .op (.load 1 false (.tmp 19)), none⟩, []⟩,
    ⟨4, ⟨(some 21), .op (.mv (.tmp 1)), none⟩, []⟩,
    ⟨5, ⟨(some 22), .op (.mv (.tmp 5)), none⟩, []⟩,
    ⟨6, ⟨(some 23), .op (.iaddrS (.tmp 21) (.tmp 22) 1), none⟩, []⟩,
    ⟨7, ⟨(some 24), .op (.load 1 false (.tmp 23)), none⟩, []⟩,
    ⟨8, ⟨(some 25), .call (.func i_laws_eqOutMoveSS) [(.tmp 20), (.tmp 24)], none⟩, []⟩,
    ⟨9, ⟨(some 26), .op (.un .not (.tmp 25)), none⟩, []⟩]
    [0, 0, 3, 7, 0, 0, 48, 112, 255, 511]) (.kill [17, 18, 19, 20, 21, 22, 23, 24, 25]))
  (.cond (.tmp 26) (.ghost (.kill [0, 1, 5, 26]) (.seq (.reg [⟨(some 4), .op (.mv (.const (Value.bool false))), none⟩])
  .ret))
  (.ghost (.kill [26]) .skip))))
  (.post (.reg [⟨(some 15), .op (.mv (.tmp 5)), none⟩,
    ⟨(some 16), .op (.bin .add (.tmp 15) (.const (Value.int .i64 1))), none⟩,
    ⟨(some 5), .op (.mv (.tmp 16)), none⟩]) (.kill [15, 16]))))
def lo_laws_eqOutMoveSSS_0 : AC := (.loop lb_laws_eqOutMoveSSS_0)
def ac_laws_eqOutMoveSSS : AC := (.seq (.post (.reg [⟨(some 4), .op (.mv (.const (Value.bool false))), none⟩]) (.kill [4]))
  (.seq (.seq (.post (.reg [⟨(some 6), .op (.mv (.tmp 0)), none⟩,
    ⟨(some 7), .op (.len false (.tmp 6)), none⟩,
    ⟨(some 8), .op (.mv (.tmp 1)), none⟩,
    ⟨(some 9), .op (.len false (.tmp 8)), none⟩,
    ⟨(some 10), .op (.bin .neq (.tmp 7) (.tmp 9)), none⟩]) (.kill [6, 7, 8, 9]))
  (.cond (.tmp 10) (.ghost (.kill [0, 1, 10]) (.seq (.reg [⟨(some 4), .op (.mv (.const (Value.bool false))), none⟩])
  .ret))
  (.ghost (.kill [10]) .skip)))
  (.seq (.seq (.reg [⟨(some 5), .op (.mv (.const (Value.int .i64 0))), none⟩])
  (.block 0 lo_laws_eqOutMoveSSS_0))
  (.ghost (.kill [0, 1, 5]) (.seq (.reg [⟨(some 4), .op (.mv (.const (Value.bool true))), none⟩])
  .ret)))))
theorem cf_laws_eqOutMoveSSS : chkFn Try.prog i_laws_eqOutMoveSSS ac_laws_eqOutMoveSSS [.tmp 4] 27 = true := by decide +kernel
def fa_laws_eqOutMoveSSS : FnA := ⟨ac_laws_eqOutMoveSSS, [.tmp 4], 27, false, true⟩

/-- The checked code of laws eqRewriter. -/
def ac_laws_eqRewriter : AC := (.seq (.post (.reg [⟨(some 2), .op (.box true (.tmp 0)), none⟩,
    ⟨(some 3), .op (.box true (.tmp 1)), none⟩,
    ⟨(some 4), .op (.mv (.const (Value.bool false))), none⟩]) (.kill [0, 1, 4]))
  (.seq (.seq (.post (.reg [⟨(some 5), .op (.faddr (.tmp 2) 0), none⟩,
    ⟨(some 6), .op (.load 1 false (.tmp 5)), none⟩,
    ⟨(some 7), .op (.faddr (.tmp 3) 0), none⟩,
    ⟨(some 8), .op (.load 1 false (.tmp 7)), none⟩,
    ⟨(some 9), .op (.bin .neq (.tmp 6) (.tmp 8)), none⟩]) (.kill [5, 6, 7, 8]))
  (.cond (.tmp 9) (.ghost (.kill [2, 3, 9]) (.seq (.reg [⟨(some 4), .op (.mv (.const (Value.bool false))), none⟩])
  .ret))
  (.ghost (.kill [9]) .skip)))
  (.seq (.seq (.post (.reg [⟨(some 10), .op (.faddr (.tmp 2) 1), none⟩,
    ⟨(some 11), .op (.load 1 false (.tmp 10)), none⟩,
    ⟨(some 12), .op (.faddr (.tmp 3) 1), none⟩,
    ⟨(some 13), .op (.load 1 false (.tmp 12)), none⟩,
    ⟨(some 14), .op (.bin .neq (.tmp 11) (.tmp 13)), none⟩]) (.kill [10, 11, 12, 13]))
  (.cond (.tmp 14) (.ghost (.kill [2, 3, 14]) (.seq (.reg [⟨(some 4), .op (.mv (.const (Value.bool false))), none⟩])
  .ret))
  (.ghost (.kill [14]) .skip)))
  (.seq (.seq (.post (.reg [⟨(some 15), .op (.faddr (.tmp 2) 2), none⟩,
    ⟨(some 16), .op (.load 1 false (.tmp 15)), none⟩,
    ⟨(some 17), .op (.faddr (.tmp 3) 2), none⟩,
    ⟨(some 18), .op (.load 1 false (.tmp 17)), none⟩,
    ⟨(some 19), .call (.func i_laws_eqOutPushSS) [(.tmp 16), (.tmp 18)], none⟩,
    ⟨(some 20), .op (.un .not (.tmp 19)), none⟩]) (.kill [15, 16, 17, 18, 19]))
  (.cond (.tmp 20) (.ghost (.kill [2, 3, 20]) (.seq (.reg [⟨(some 4), .op (.mv (.const (Value.bool false))), none⟩])
  .ret))
  (.ghost (.kill [20]) .skip)))
  (.seq (.seq (.post (.reg [⟨(some 21), .op (.faddr (.tmp 2) 3), none⟩,
    ⟨(some 22), .op (.load 1 false (.tmp 21)), none⟩,
    ⟨(some 23), .op (.faddr (.tmp 3) 3), none⟩,
    ⟨(some 24), .op (.load 1 false (.tmp 23)), none⟩,
    ⟨(some 25), .call (.func i_laws_eqOutMoveSSS) [(.tmp 22), (.tmp 24)], none⟩,
    ⟨(some 26), .op (.un .not (.tmp 25)), none⟩]) (.kill [21, 22, 23, 24, 25]))
  (.cond (.tmp 26) (.ghost (.kill [2, 3, 26]) (.seq (.reg [⟨(some 4), .op (.mv (.const (Value.bool false))), none⟩])
  .ret))
  (.ghost (.kill [26]) .skip)))
  (.seq (.seq (.post (.reg [⟨(some 27), .op (.faddr (.tmp 2) 4), none⟩,
    ⟨(some 28), .op (.load 1 false (.tmp 27)), none⟩,
    ⟨(some 29), .op (.faddr (.tmp 3) 4), none⟩,
    ⟨(some 30), .op (.load 1 false (.tmp 29)), none⟩,
    ⟨(some 31), .call (.func i_laws_eqOutMoveSS) [(.tmp 28), (.tmp 30)], none⟩,
    ⟨(some 32), .op (.un .not (.tmp 31)), none⟩]) (.kill [2, 3, 27, 28, 29, 30, 31]))
  (.cond (.tmp 32) (.ghost (.kill [32]) (.seq (.reg [⟨(some 4), .op (.mv (.const (Value.bool false))), none⟩])
  .ret))
  (.ghost (.kill [32]) .skip)))
  (.seq (.reg [⟨(some 4), .op (.mv (.const (Value.bool true))), none⟩])
  .ret)))))))
theorem cf_laws_eqRewriter : chkFn Try.prog i_laws_eqRewriter ac_laws_eqRewriter [.tmp 4] 33 = true := by decide +kernel
def fa_laws_eqRewriter : FnA := ⟨ac_laws_eqRewriter, [.tmp 4], 33, false, true⟩

/-- The checked code of laws markText. -/
def lb_laws_markText_0 : AC := (.post (.seq (.seq (.post (.reg [⟨(some 6), .op (.mv (.tmp 0)), none⟩,
    ⟨(some 7), .op (.bin .gtr (.tmp 6) (.const (Value.int .i64 0))), none⟩]) (.kill [6]))
  (.cond (.tmp 7) (.ghost (.kill [7]) .skip)
  (.ghost (.kill [0, 7]) (.exit 0))))
  (.block 1 (.seq (.post (.reg [⟨(some 8), .op (.mv (.tmp 0)), none⟩,
    ⟨(some 9), .op (.bin .rem (.tmp 8) (.const (Value.int .i64 10))), none⟩,
    ⟨(some 10), .op (.bin .add (.const (Value.int .i64 48)) (.tmp 9)), none⟩,
    ⟨(some 11), .op (.conv .u8 (.tmp 10)), none⟩,
    ⟨(some 12), .op (.lits false 1 1 (Value.int .u8 0) [(0, (.tmp 11))]), none⟩,
    ⟨(some 13), .op (.b2s (.tmp 12)), none⟩,
    ⟨(some 14), .op (.mv (.tmp 3)), none⟩,
    ⟨(some 15), .op (.bin .add (.tmp 13) (.tmp 14)), none⟩,
    ⟨(some 3), .op (.mv (.tmp 15)), none⟩]) (.kill [8, 9, 10, 11, 12, 13, 14, 15]))
  (.post (.reg [⟨(some 16), .op (.mv (.tmp 0)), none⟩,
    ⟨(some 17), .op (.bin .quo (.tmp 16) (.const (Value.int .i64 10))), none⟩,
    ⟨(some 0), .op (.mv (.tmp 17)), none⟩]) (.kill [16, 17]))))) .nv)
def lo_laws_markText_0 : AC := (.loop lb_laws_markText_0)
def ac_laws_markText : AC := (.seq (.post (.reg [⟨(some 2), .op (.mv (.const (Value.string ⟨#[]⟩))), none⟩]) (.kill [2]))
  (.seq (.seq (.post (.reg [⟨(some 4), .op (.mv (.tmp 0)), none⟩,
    ⟨(some 5), .op (.bin .leq (.tmp 4) (.const (Value.int .i64 0))), none⟩]) (.kill [4]))
  (.cond (.tmp 5) (.ghost (.kill [0, 5]) (.seq (.reg [⟨(some 2), .op (.mv (.const (Value.string ⟨#[109, 48]⟩))), none⟩])
  .ret))
  (.ghost (.kill [5]) .skip)))
  (.seq (.reg [⟨(some 3), .op (.mv (.const (Value.string ⟨#[]⟩))), none⟩])
  (.seq (.post (.block 0 (.ghost .nv lo_laws_markText_0)) .nv)
  (.ghost (.kill [0]) (.seq (.post (.reg [⟨(some 18), .op (.mv (.tmp 3)), none⟩,
    ⟨(some 19), .op (.bin .add (.const (Value.string ⟨#[109]⟩)) (.tmp 18)), none⟩,
    ⟨(some 2), .op (.mv (.tmp 19)), none⟩]) (.kill [3, 18, 19]))
  .ret))))))
theorem cf_laws_markText : chkFn Try.prog i_laws_markText ac_laws_markText [.tmp 2] 20 = true := by decide +kernel
def fa_laws_markText : FnA := ⟨ac_laws_markText, [.tmp 2], 20, false, true⟩

/-- The checked code of laws markOutPushS. -/
def lb_laws_markOutPushS_0 : AC := (.post (.seq (.seq (.post (.reg [⟨(some 6), .op (.mv (.tmp 5)), none⟩,
    ⟨(some 7), .op (.mv (.tmp 0)), none⟩,
    ⟨(some 8), .op (.len false (.tmp 7)), none⟩,
    ⟨(some 9), .op (.bin .lss (.tmp 6) (.tmp 8)), none⟩]) (.kill [6, 7, 8]))
  (.cond (.tmp 9) (.ghost (.kill [9]) .skip)
  (.ghost (.kill [0, 5, 9]) (.exit 0))))
  (.seq (.block 1 (.seq (.post (.reg [⟨(some 12), .op (.mv (.tmp 0)), none⟩,
    ⟨(some 13), .op (.mv (.tmp 5)), none⟩,
    ⟨(some 14), .op (.mv (.tmp 1)), none⟩,
    ⟨(some 15), .op (.iaddrS (.tmp 12) (.tmp 13) 3), none⟩,
    ⟨(some 16), .op (.faddr (.tmp 15) 0), none⟩,
    ⟨none, .op (.store 1 (.tmp 16) (.tmp 14)), none⟩]) (.kill [12, 13, 14, 15, 16]))
  (.seq (.post (.reg [⟨(some 17), .op (.mv (.tmp 1)), none⟩,
    ⟨(some 18), .op (.bin .add (.tmp 17) (.const (Value.int .i64 1))), none⟩,
    ⟨(some 1), .op (.mv (.tmp 18)), none⟩]) (.kill [17, 18]))
  (.seq (.post (.reg [⟨(some 19), .op (.mv (.tmp 0)), none⟩,
    ⟨(some 20), .op (.mv (.tmp 5)), none⟩,
    ⟨(some 21), .op (.mv (.tmp 1)), none⟩,
    ⟨(some 22), .op (.iaddrS (.tmp 19) (.tmp 20) 3), none⟩,
    ⟨(some 23), .op (.faddr (.tmp 22) 1), none⟩,
    ⟨none, .op (.store 1 (.tmp 23) (.tmp 21)), none⟩]) (.kill [19, 20, 21, 22, 23]))
  (.seq (.post (.reg [⟨(some 24), .op (.mv (.tmp 1)), none⟩,
    ⟨(some 25), .op (.bin .add (.tmp 24) (.const (Value.int .i64 1))), none⟩,
    ⟨(some 1), .op (.mv (.tmp 25)), none⟩]) (.kill [24, 25]))
  (.seq (.post (.reg [⟨(some 26), .op (.mv (.tmp 0)), none⟩,
    ⟨(some 27), .op (.mv (.tmp 5)), none⟩,
    ⟨(some 28), .op (.mv (.tmp 1)), none⟩,
    ⟨(some 29), .call (.func i_laws_markText) [(.tmp 28)], none⟩,
    ⟨(some 30), .op (.iaddrS (.tmp 26) (.tmp 27) 3), none⟩,
    ⟨(some 31), .op (.faddr (.tmp 30) 2), none⟩,
    ⟨none, .op (.store 1 (.tmp 31) (.tmp 29)), none⟩]) (.kill [26, 27, 28, 29, 30, 31]))
  (.post (.reg [⟨(some 32), .op (.mv (.tmp 1)), none⟩,
    ⟨(some 33), .op (.bin .add (.tmp 32) (.const (Value.int .i64 1))), none⟩,
    ⟨(some 1), .op (.mv (.tmp 33)), none⟩]) (.kill [32, 33]))))))))
  (.post (.reg [⟨(some 10), .op (.mv (.tmp 5)), none⟩,
    ⟨(some 11), .op (.bin .add (.tmp 10) (.const (Value.int .i64 1))), none⟩,
    ⟨(some 5), .op (.mv (.tmp 11)), none⟩]) (.kill [10, 11])))) .nv)
def lo_laws_markOutPushS_0 : AC := (.loop lb_laws_markOutPushS_0)
def ac_laws_markOutPushS : AC := (.seq (.post (.reg [⟨(some 4), .op (.mv (.const (Value.int .i64 0))), none⟩]) (.kill [4]))
  (.seq (.seq (.reg [⟨(some 5), .op (.mv (.const (Value.int .i64 0))), none⟩])
  (.post (.block 0 (.ghost .nv lo_laws_markOutPushS_0)) .nv))
  (.ghost (.kill [0, 5]) (.seq (.post (.reg [⟨(some 34), .op (.mv (.tmp 1)), none⟩,
    ⟨(some 4), .op (.mv (.tmp 34)), none⟩]) (.kill [1, 34]))
  .ret))))
theorem cf_laws_markOutPushS : chkFn Try.prog i_laws_markOutPushS ac_laws_markOutPushS [.tmp 4] 35 = true := by decide +kernel
def fa_laws_markOutPushS : FnA := ⟨ac_laws_markOutPushS, [.tmp 4], 35, true, false⟩

/-- The checked code of laws markOutPushSS. -/
def lb_laws_markOutPushSS_0 : AC := (.post (.seq (.seq (.post (.reg [⟨(some 6), .op (.mv (.tmp 5)), none⟩,
    ⟨(some 7), .op (.mv (.tmp 0)), none⟩,
    ⟨(some 8), .op (.len false (.tmp 7)), none⟩,
    ⟨(some 9), .op (.bin .lss (.tmp 6) (.tmp 8)), none⟩]) (.kill [6, 7, 8]))
  (.cond (.tmp 9) (.ghost (.kill [9]) .skip)
  (.ghost (.kill [0, 5, 9]) (.exit 0))))
  (.seq (.block 1 (.post (.reg [⟨(some 12), .op (.mv (.tmp 0)), none⟩,
    ⟨(some 13), .op (.mv (.tmp 5)), none⟩,
    ⟨(some 14), .op (.iaddrS (.tmp 12) (.tmp 13) 1), none⟩,
    ⟨(some 15), .op (.load 1 false (.tmp 14)), none⟩,
    ⟨(some 16), .op (.mv (.tmp 1)), none⟩,
    ⟨(some 17), .call (.func i_laws_markOutPushS) [(.tmp 15), (.tmp 16)], none⟩,
    ⟨(some 1), .op (.mv (.tmp 17)), none⟩]) (.kill [12, 13, 14, 15, 16, 17])))
  (.post (.reg [⟨(some 10), .op (.mv (.tmp 5)), none⟩,
    ⟨(some 11), .op (.bin .add (.tmp 10) (.const (Value.int .i64 1))), none⟩,
    ⟨(some 5), .op (.mv (.tmp 11)), none⟩]) (.kill [10, 11])))) .nv)
def lo_laws_markOutPushSS_0 : AC := (.loop lb_laws_markOutPushSS_0)
def ac_laws_markOutPushSS : AC := (.seq (.post (.reg [⟨(some 4), .op (.mv (.const (Value.int .i64 0))), none⟩]) (.kill [4]))
  (.seq (.seq (.reg [⟨(some 5), .op (.mv (.const (Value.int .i64 0))), none⟩])
  (.post (.block 0 (.ghost .nv lo_laws_markOutPushSS_0)) .nv))
  (.ghost (.kill [0, 5]) (.seq (.post (.reg [⟨(some 18), .op (.mv (.tmp 1)), none⟩,
    ⟨(some 4), .op (.mv (.tmp 18)), none⟩]) (.kill [1, 18]))
  .ret))))
theorem cf_laws_markOutPushSS : chkFn Try.prog i_laws_markOutPushSS ac_laws_markOutPushSS [.tmp 4] 19 = true := by decide +kernel
def fa_laws_markOutPushSS : FnA := ⟨ac_laws_markOutPushSS, [.tmp 4], 19, true, false⟩

/-- The checked code of laws markOutMoveS. -/
def lb_laws_markOutMoveS_0 : AC := (.post (.seq (.seq (.post (.reg [⟨(some 6), .op (.mv (.tmp 5)), none⟩,
    ⟨(some 7), .op (.mv (.tmp 0)), none⟩,
    ⟨(some 8), .op (.len false (.tmp 7)), none⟩,
    ⟨(some 9), .op (.bin .lss (.tmp 6) (.tmp 8)), none⟩]) (.kill [6, 7, 8]))
  (.cond (.tmp 9) (.ghost (.kill [9]) .skip)
  (.ghost (.kill [0, 5, 9]) (.exit 0))))
  (.seq (.block 1 (.seq (.post (.reg [⟨(some 12), .op (.mv (.tmp 0)), none⟩,
    ⟨(some 13), .op (.mv (.tmp 5)), none⟩,
    ⟨(some 14), .op (.mv (.tmp 1)), none⟩,
    ⟨(some 15), .op (.iaddrS (.tmp 12) (.tmp 13) 2), none⟩,
    ⟨(some 16), .op (.faddr (.tmp 15) 0), none⟩,
    ⟨none, .op (.store 1 (.tmp 16) (.tmp 14)), none⟩]) (.kill [12, 13, 14, 15, 16]))
  (.seq (.post (.reg [⟨(some 17), .op (.mv (.tmp 1)), none⟩,
    ⟨(some 18), .op (.bin .add (.tmp 17) (.const (Value.int .i64 1))), none⟩,
    ⟨(some 1), .op (.mv (.tmp 18)), none⟩]) (.kill [17, 18]))
  (.seq (.post (.reg [⟨(some 19), .op (.mv (.tmp 0)), none⟩,
    ⟨(some 20), .op (.mv (.tmp 5)), none⟩,
    ⟨(some 21), .op (.mv (.tmp 1)), none⟩,
    ⟨(some 22), .call (.func i_laws_markText) [(.tmp 21)], none⟩,
    ⟨(some 23), .op (.iaddrS (.tmp 19) (.tmp 20) 2), none⟩,
    ⟨(some 24), .op (.faddr (.tmp 23) 1), none⟩,
    ⟨none, .op (.store 1 (.tmp 24) (.tmp 22)), none⟩]) (.kill [19, 20, 21, 22, 23, 24]))
  (.post (.reg [⟨(some 25), .op (.mv (.tmp 1)), none⟩,
    ⟨(some 26), .op (.bin .add (.tmp 25) (.const (Value.int .i64 1))), none⟩,
    ⟨(some 1), .op (.mv (.tmp 26)), none⟩]) (.kill [25, 26]))))))
  (.post (.reg [⟨(some 10), .op (.mv (.tmp 5)), none⟩,
    ⟨(some 11), .op (.bin .add (.tmp 10) (.const (Value.int .i64 1))), none⟩,
    ⟨(some 5), .op (.mv (.tmp 11)), none⟩]) (.kill [10, 11])))) .nv)
def lo_laws_markOutMoveS_0 : AC := (.loop lb_laws_markOutMoveS_0)
def ac_laws_markOutMoveS : AC := (.seq (.post (.reg [⟨(some 4), .op (.mv (.const (Value.int .i64 0))), none⟩]) (.kill [4]))
  (.seq (.seq (.reg [⟨(some 5), .op (.mv (.const (Value.int .i64 0))), none⟩])
  (.post (.block 0 (.ghost .nv lo_laws_markOutMoveS_0)) .nv))
  (.ghost (.kill [0, 5]) (.seq (.post (.reg [⟨(some 27), .op (.mv (.tmp 1)), none⟩,
    ⟨(some 4), .op (.mv (.tmp 27)), none⟩]) (.kill [1, 27]))
  .ret))))
theorem cf_laws_markOutMoveS : chkFn Try.prog i_laws_markOutMoveS ac_laws_markOutMoveS [.tmp 4] 28 = true := by decide +kernel
def fa_laws_markOutMoveS : FnA := ⟨ac_laws_markOutMoveS, [.tmp 4], 28, true, false⟩

/-- The checked code of laws markOutMoveSS. -/
def lb_laws_markOutMoveSS_0 : AC := (.post (.seq (.seq (.post (.reg [⟨(some 6), .op (.mv (.tmp 5)), none⟩,
    ⟨(some 7), .op (.mv (.tmp 0)), none⟩,
    ⟨(some 8), .op (.len false (.tmp 7)), none⟩,
    ⟨(some 9), .op (.bin .lss (.tmp 6) (.tmp 8)), none⟩]) (.kill [6, 7, 8]))
  (.cond (.tmp 9) (.ghost (.kill [9]) .skip)
  (.ghost (.kill [0, 5, 9]) (.exit 0))))
  (.seq (.block 1 (.post (.reg [⟨(some 12), .op (.mv (.tmp 0)), none⟩,
    ⟨(some 13), .op (.mv (.tmp 5)), none⟩,
    ⟨(some 14), .op (.iaddrS (.tmp 12) (.tmp 13) 1), none⟩,
    ⟨(some 15), .op (.load 1 false (.tmp 14)), none⟩,
    ⟨(some 16), .op (.mv (.tmp 1)), none⟩,
    ⟨(some 17), .call (.func i_laws_markOutMoveS) [(.tmp 15), (.tmp 16)], none⟩,
    ⟨(some 1), .op (.mv (.tmp 17)), none⟩]) (.kill [12, 13, 14, 15, 16, 17])))
  (.post (.reg [⟨(some 10), .op (.mv (.tmp 5)), none⟩,
    ⟨(some 11), .op (.bin .add (.tmp 10) (.const (Value.int .i64 1))), none⟩,
    ⟨(some 5), .op (.mv (.tmp 11)), none⟩]) (.kill [10, 11])))) .nv)
def lo_laws_markOutMoveSS_0 : AC := (.loop lb_laws_markOutMoveSS_0)
def ac_laws_markOutMoveSS : AC := (.seq (.post (.reg [⟨(some 4), .op (.mv (.const (Value.int .i64 0))), none⟩]) (.kill [4]))
  (.seq (.seq (.reg [⟨(some 5), .op (.mv (.const (Value.int .i64 0))), none⟩])
  (.post (.block 0 (.ghost .nv lo_laws_markOutMoveSS_0)) .nv))
  (.ghost (.kill [0, 5]) (.seq (.post (.reg [⟨(some 18), .op (.mv (.tmp 1)), none⟩,
    ⟨(some 4), .op (.mv (.tmp 18)), none⟩]) (.kill [1, 18]))
  .ret))))
theorem cf_laws_markOutMoveSS : chkFn Try.prog i_laws_markOutMoveSS ac_laws_markOutMoveSS [.tmp 4] 19 = true := by decide +kernel
def fa_laws_markOutMoveSS : FnA := ⟨ac_laws_markOutMoveSS, [.tmp 4], 19, true, false⟩

/-- The checked code of laws markOutMoveSSS. -/
def lb_laws_markOutMoveSSS_0 : AC := (.post (.seq (.seq (.post (.reg [⟨(some 6), .op (.mv (.tmp 5)), none⟩,
    ⟨(some 7), .op (.mv (.tmp 0)), none⟩,
    ⟨(some 8), .op (.len false (.tmp 7)), none⟩,
    ⟨(some 9), .op (.bin .lss (.tmp 6) (.tmp 8)), none⟩]) (.kill [6, 7, 8]))
  (.cond (.tmp 9) (.ghost (.kill [9]) .skip)
  (.ghost (.kill [0, 5, 9]) (.exit 0))))
  (.seq (.block 1 (.post (.reg [⟨(some 12), .op (.mv (.tmp 0)), none⟩,
    ⟨(some 13), .op (.mv (.tmp 5)), none⟩,
    ⟨(some 14), .op (.iaddrS (.tmp 12) (.tmp 13) 1), none⟩,
    ⟨(some 15), .op (.load 1 false (.tmp 14)), none⟩,
    ⟨(some 16), .op (.mv (.tmp 1)), none⟩,
    ⟨(some 17), .call (.func i_laws_markOutMoveSS) [(.tmp 15), (.tmp 16)], none⟩,
    ⟨(some 1), .op (.mv (.tmp 17)), none⟩]) (.kill [12, 13, 14, 15, 16, 17])))
  (.post (.reg [⟨(some 10), .op (.mv (.tmp 5)), none⟩,
    ⟨(some 11), .op (.bin .add (.tmp 10) (.const (Value.int .i64 1))), none⟩,
    ⟨(some 5), .op (.mv (.tmp 11)), none⟩]) (.kill [10, 11])))) .nv)
def lo_laws_markOutMoveSSS_0 : AC := (.loop lb_laws_markOutMoveSSS_0)
def ac_laws_markOutMoveSSS : AC := (.seq (.post (.reg [⟨(some 4), .op (.mv (.const (Value.int .i64 0))), none⟩]) (.kill [4]))
  (.seq (.seq (.reg [⟨(some 5), .op (.mv (.const (Value.int .i64 0))), none⟩])
  (.post (.block 0 (.ghost .nv lo_laws_markOutMoveSSS_0)) .nv))
  (.ghost (.kill [0, 5]) (.seq (.post (.reg [⟨(some 18), .op (.mv (.tmp 1)), none⟩,
    ⟨(some 4), .op (.mv (.tmp 18)), none⟩]) (.kill [1, 18]))
  .ret))))
theorem cf_laws_markOutMoveSSS : chkFn Try.prog i_laws_markOutMoveSSS ac_laws_markOutMoveSSS [.tmp 4] 19 = true := by decide +kernel
def fa_laws_markOutMoveSSS : FnA := ⟨ac_laws_markOutMoveSSS, [.tmp 4], 19, true, false⟩

/-- The checked code of laws markRewriter. -/
def ac_laws_markRewriter : AC := (.seq (.post (.reg [⟨(some 2), .op (.box false (.tmp 0)), none⟩,
    ⟨(some 4), .op (.mv (.const (Value.int .i64 0))), none⟩]) (.kill [0, 4]))
  (.seq (.post (.reg [⟨(some 5), .op (.faddr (.tmp 2) 2), none⟩,
    ⟨(some 6), .op (.load 1 false (.tmp 5)), none⟩,
    ⟨(some 7), .op (.mv (.tmp 1)), none⟩,
    ⟨(some 8), .call (.func i_laws_markOutPushSS) [(.tmp 6), (.tmp 7)], none⟩,
    ⟨(some 1), .op (.mv (.tmp 8)), none⟩]) (.kill [5, 6, 7, 8]))
  (.seq (.post (.reg [⟨(some 9), .op (.faddr (.tmp 2) 3), none⟩,
    ⟨(some 10), .op (.load 1 false (.tmp 9)), none⟩,
    ⟨(some 11), .op (.mv (.tmp 1)), none⟩,
    ⟨(some 12), .call (.func i_laws_markOutMoveSSS) [(.tmp 10), (.tmp 11)], none⟩,
    ⟨(some 1), .op (.mv (.tmp 12)), none⟩]) (.kill [9, 10, 11, 12]))
  (.seq (.post (.reg [⟨(some 13), .op (.faddr (.tmp 2) 4), none⟩,
    ⟨(some 14), .op (.load 1 false (.tmp 13)), none⟩,
    ⟨(some 15), .op (.mv (.tmp 1)), none⟩,
    ⟨(some 16), .call (.func i_laws_markOutMoveSS) [(.tmp 14), (.tmp 15)], none⟩,
    ⟨(some 1), .op (.mv (.tmp 16)), none⟩]) (.kill [2, 13, 14, 15, 16]))
  (.seq (.post (.reg [⟨(some 17), .op (.mv (.tmp 1)), none⟩,
    ⟨(some 4), .op (.mv (.tmp 17)), none⟩]) (.kill [1, 17]))
  .ret)))))
theorem cf_laws_markRewriter : chkFn Try.prog i_laws_markRewriter ac_laws_markRewriter [.tmp 4] 18 = true := by decide +kernel
def fa_laws_markRewriter : FnA := ⟨ac_laws_markRewriter, [.tmp 4], 18, true, false⟩

/-- The checked code of laws heldOutPushS. -/
def lb_laws_heldOutPushS_0 : AC := (.seq (.seq (.post (.reg [⟨(some 6), .op (.mv (.tmp 5)), none⟩,
    ⟨(some 7), .op (.mv (.tmp 0)), none⟩,
    ⟨(some 8), .op (.len false (.tmp 7)), none⟩,
    ⟨(some 9), .op (.bin .lss (.tmp 6) (.tmp 8)), none⟩]) (.kill [6, 7, 8]))
  (.cond (.tmp 9) (.ghost (.kill [9]) .skip)
  (.ghost (.kill [0, 5, 9]) (.exit 0))))
  (.seq (.block 1 (.seq (.seq (.post (.reg [⟨(some 12), .op (.mv (.tmp 0)), none⟩,
    ⟨(some 13), .op (.mv (.tmp 5)), none⟩,
    ⟨(some 14), .op (.iaddrS (.tmp 12) (.tmp 13) 3), none⟩,
    ⟨(some 15), .op (.faddr (.tmp 14) 0), none⟩,
    ⟨(some 16), .op (.load 1 false (.tmp 15)), none⟩,
    ⟨(some 17), .op (.mv (.tmp 1)), none⟩,
    ⟨(some 18), .op (.bin .neq (.tmp 16) (.tmp 17)), none⟩]) (.kill [12, 13, 14, 15, 16, 17]))
  (.cond (.tmp 18) (.ghost (.kill [0, 1, 5, 18]) (.seq (.reg [⟨(some 4), .op (.mv (.const (Value.int .i64 (-1)))), none⟩])
  .ret))
  (.ghost (.kill [18]) .skip)))
  (.seq (.post (.reg [⟨(some 19), .op (.mv (.tmp 1)), none⟩,
    ⟨(some 20), .op (.bin .add (.tmp 19) (.const (Value.int .i64 1))), none⟩,
    ⟨(some 1), .op (.mv (.tmp 20)), none⟩]) (.kill [19, 20]))
  (.seq (.seq (.post (.reg [⟨(some 21), .op (.mv (.tmp 0)), none⟩,
    ⟨(some 22), .op (.mv (.tmp 5)), none⟩,
    ⟨(some 23), .op (.iaddrS (.tmp 21) (.tmp 22) 3), none⟩,
    ⟨(some 24), .op (.faddr (.tmp 23) 1), none⟩,
    ⟨(some 25), .op (.load 1 false (.tmp 24)), none⟩,
    ⟨(some 26), .op (.mv (.tmp 1)), none⟩,
    ⟨(some 27), .op (.bin .neq (.tmp 25) (.tmp 26)), none⟩]) (.kill [21, 22, 23, 24, 25, 26]))
  (.cond (.tmp 27) (.ghost (.kill [0, 1, 5, 27]) (.seq (.reg [⟨(some 4), .op (.mv (.const (Value.int .i64 (-1)))), none⟩])
  .ret))
  (.ghost (.kill [27]) .skip)))
  (.seq (.post (.reg [⟨(some 28), .op (.mv (.tmp 1)), none⟩,
    ⟨(some 29), .op (.bin .add (.tmp 28) (.const (Value.int .i64 1))), none⟩,
    ⟨(some 1), .op (.mv (.tmp 29)), none⟩]) (.kill [28, 29]))
  (.seq (.seq (.post (.draw [⟨0, ⟨(some 30), .op (.mv (.tmp 0)), none⟩, []⟩,
    ⟨1, ⟨(some 31), .op (.mv (.tmp 5)), none⟩, []⟩,
    ⟨2, ⟨(some 32), .op (.iaddrS (.tmp 30) (.tmp 31) 3), none⟩, []⟩,
    ⟨3, ⟨(some 33), .op (.faddr (.tmp 32) 2), none⟩, []⟩,
    ⟨4, ⟨(some 34), .op (.load 1 false (.tmp 33)), none⟩, []⟩,
    ⟨5, ⟨(some 35), .op (.mv (.tmp 1)), none⟩, []⟩,
    ⟨6, ⟨(some 36), .call (.func i_laws_markText) [(.tmp 35)], none⟩, [2, 4]⟩,
    ⟨7, ⟨(some 37), .op (.bin .neq (.tmp 34) (.tmp 36)), none⟩, []⟩]
    [0, 0, 3, 7, 15, 0, 32, 127]) (.kill [30, 31, 32, 33, 34, 35, 36]))
  (.cond (.tmp 37) (.ghost (.kill [0, 1, 5, 37]) (.seq (.reg [⟨(some 4), .op (.mv (.const (Value.int .i64 (-1)))), none⟩])
  .ret))
  (.ghost (.kill [37]) .skip)))
  (.post (.reg [⟨(some 38), .op (.mv (.tmp 1)), none⟩,
    ⟨(some 39), .op (.bin .add (.tmp 38) (.const (Value.int .i64 1))), none⟩,
    ⟨(some 1), .op (.mv (.tmp 39)), none⟩]) (.kill [38, 39]))))))))
  (.post (.reg [⟨(some 10), .op (.mv (.tmp 5)), none⟩,
    ⟨(some 11), .op (.bin .add (.tmp 10) (.const (Value.int .i64 1))), none⟩,
    ⟨(some 5), .op (.mv (.tmp 11)), none⟩]) (.kill [10, 11]))))
def lo_laws_heldOutPushS_0 : AC := (.loop lb_laws_heldOutPushS_0)
def ac_laws_heldOutPushS : AC := (.seq (.post (.reg [⟨(some 4), .op (.mv (.const (Value.int .i64 0))), none⟩]) (.kill [4]))
  (.seq (.seq (.reg [⟨(some 5), .op (.mv (.const (Value.int .i64 0))), none⟩])
  (.block 0 lo_laws_heldOutPushS_0))
  (.ghost (.kill [0, 5]) (.seq (.post (.reg [⟨(some 40), .op (.mv (.tmp 1)), none⟩,
    ⟨(some 4), .op (.mv (.tmp 40)), none⟩]) (.kill [1, 40]))
  .ret))))
theorem cf_laws_heldOutPushS : chkFn Try.prog i_laws_heldOutPushS ac_laws_heldOutPushS [.tmp 4] 41 = true := by decide +kernel
def fa_laws_heldOutPushS : FnA := ⟨ac_laws_heldOutPushS, [.tmp 4], 41, false, true⟩

/-- The checked code of laws heldOutPushSS. -/
def lb_laws_heldOutPushSS_0 : AC := (.seq (.seq (.post (.reg [⟨(some 6), .op (.mv (.tmp 5)), none⟩,
    ⟨(some 7), .op (.mv (.tmp 0)), none⟩,
    ⟨(some 8), .op (.len false (.tmp 7)), none⟩,
    ⟨(some 9), .op (.bin .lss (.tmp 6) (.tmp 8)), none⟩]) (.kill [6, 7, 8]))
  (.cond (.tmp 9) (.ghost (.kill [9]) .skip)
  (.ghost (.kill [0, 5, 9]) (.exit 0))))
  (.seq (.block 1 (.seq (.post (.reg [⟨(some 12), .op (.mv (.tmp 0)), none⟩,
    ⟨(some 13), .op (.mv (.tmp 5)), none⟩,
    ⟨(some 14), .op (.iaddrS (.tmp 12) (.tmp 13) 1), none⟩,
    ⟨(some 15), .op (.load 1 false (.tmp 14)), none⟩,
    ⟨(some 16), .op (.mv (.tmp 1)), none⟩,
    ⟨(some 17), .call (.func i_laws_heldOutPushS) [(.tmp 15), (.tmp 16)], none⟩,
    ⟨(some 1), .op (.mv (.tmp 17)), none⟩]) (.kill [12, 13, 14, 15, 16, 17]))
  (.seq (.post (.reg [⟨(some 18), .op (.mv (.tmp 1)), none⟩,
    ⟨(some 19), .op (.bin .lss (.tmp 18) (.const (Value.int .i64 0))), none⟩]) (.kill [18]))
  (.cond (.tmp 19) (.ghost (.kill [0, 1, 5, 19]) (.seq (.reg [⟨(some 4), .op (.mv (.const (Value.int .i64 (-1)))), none⟩])
  .ret))
  (.ghost (.kill [19]) .skip)))))
  (.post (.reg [⟨(some 10), .op (.mv (.tmp 5)), none⟩,
    ⟨(some 11), .op (.bin .add (.tmp 10) (.const (Value.int .i64 1))), none⟩,
    ⟨(some 5), .op (.mv (.tmp 11)), none⟩]) (.kill [10, 11]))))
def lo_laws_heldOutPushSS_0 : AC := (.loop lb_laws_heldOutPushSS_0)
def ac_laws_heldOutPushSS : AC := (.seq (.post (.reg [⟨(some 4), .op (.mv (.const (Value.int .i64 0))), none⟩]) (.kill [4]))
  (.seq (.seq (.reg [⟨(some 5), .op (.mv (.const (Value.int .i64 0))), none⟩])
  (.block 0 lo_laws_heldOutPushSS_0))
  (.ghost (.kill [0, 5]) (.seq (.post (.reg [⟨(some 20), .op (.mv (.tmp 1)), none⟩,
    ⟨(some 4), .op (.mv (.tmp 20)), none⟩]) (.kill [1, 20]))
  .ret))))
theorem cf_laws_heldOutPushSS : chkFn Try.prog i_laws_heldOutPushSS ac_laws_heldOutPushSS [.tmp 4] 21 = true := by decide +kernel
def fa_laws_heldOutPushSS : FnA := ⟨ac_laws_heldOutPushSS, [.tmp 4], 21, false, true⟩

/-- The checked code of laws heldOutMoveS. -/
def lb_laws_heldOutMoveS_0 : AC := (.seq (.seq (.post (.reg [⟨(some 6), .op (.mv (.tmp 5)), none⟩,
    ⟨(some 7), .op (.mv (.tmp 0)), none⟩,
    ⟨(some 8), .op (.len false (.tmp 7)), none⟩,
    ⟨(some 9), .op (.bin .lss (.tmp 6) (.tmp 8)), none⟩]) (.kill [6, 7, 8]))
  (.cond (.tmp 9) (.ghost (.kill [9]) .skip)
  (.ghost (.kill [0, 5, 9]) (.exit 0))))
  (.seq (.block 1 (.seq (.seq (.post (.reg [⟨(some 12), .op (.mv (.tmp 0)), none⟩,
    ⟨(some 13), .op (.mv (.tmp 5)), none⟩,
    ⟨(some 14), .op (.iaddrS (.tmp 12) (.tmp 13) 2), none⟩,
    ⟨(some 15), .op (.faddr (.tmp 14) 0), none⟩,
    ⟨(some 16), .op (.load 1 false (.tmp 15)), none⟩,
    ⟨(some 17), .op (.mv (.tmp 1)), none⟩,
    ⟨(some 18), .op (.bin .neq (.tmp 16) (.tmp 17)), none⟩]) (.kill [12, 13, 14, 15, 16, 17]))
  (.cond (.tmp 18) (.ghost (.kill [0, 1, 5, 18]) (.seq (.reg [⟨(some 4), .op (.mv (.const (Value.int .i64 (-1)))), none⟩])
  .ret))
  (.ghost (.kill [18]) .skip)))
  (.seq (.post (.reg [⟨(some 19), .op (.mv (.tmp 1)), none⟩,
    ⟨(some 20), .op (.bin .add (.tmp 19) (.const (Value.int .i64 1))), none⟩,
    ⟨(some 1), .op (.mv (.tmp 20)), none⟩]) (.kill [19, 20]))
  (.seq (.seq (.post (.draw [⟨0, ⟨(some 21), .op (.mv (.tmp 0)), none⟩, []⟩,
    ⟨1, ⟨(some 22), .op (.mv (.tmp 5)), none⟩, []⟩,
    ⟨2, ⟨(some 23), .op (.iaddrS (.tmp 21) (.tmp 22) 2), none⟩, []⟩,
    ⟨3, ⟨(some 24), .op (.faddr (.tmp 23) 1), none⟩, []⟩,
    ⟨4, ⟨(some 25), .op (.load 1 false (.tmp 24)), none⟩, []⟩,
    ⟨5, ⟨(some 26), .op (.mv (.tmp 1)), none⟩, []⟩,
    ⟨6, ⟨(some 27), .call (.func i_laws_markText) [(.tmp 26)], none⟩, [2, 4]⟩,
    ⟨7, ⟨(some 28), .op (.bin .neq (.tmp 25) (.tmp 27)), none⟩, []⟩]
    [0, 0, 3, 7, 15, 0, 32, 127]) (.kill [21, 22, 23, 24, 25, 26, 27]))
  (.cond (.tmp 28) (.ghost (.kill [0, 1, 5, 28]) (.seq (.reg [⟨(some 4), .op (.mv (.const (Value.int .i64 (-1)))), none⟩])
  .ret))
  (.ghost (.kill [28]) .skip)))
  (.post (.reg [⟨(some 29), .op (.mv (.tmp 1)), none⟩,
    ⟨(some 30), .op (.bin .add (.tmp 29) (.const (Value.int .i64 1))), none⟩,
    ⟨(some 1), .op (.mv (.tmp 30)), none⟩]) (.kill [29, 30]))))))
  (.post (.reg [⟨(some 10), .op (.mv (.tmp 5)), none⟩,
    ⟨(some 11), .op (.bin .add (.tmp 10) (.const (Value.int .i64 1))), none⟩,
    ⟨(some 5), .op (.mv (.tmp 11)), none⟩]) (.kill [10, 11]))))
def lo_laws_heldOutMoveS_0 : AC := (.loop lb_laws_heldOutMoveS_0)
def ac_laws_heldOutMoveS : AC := (.seq (.post (.reg [⟨(some 4), .op (.mv (.const (Value.int .i64 0))), none⟩]) (.kill [4]))
  (.seq (.seq (.reg [⟨(some 5), .op (.mv (.const (Value.int .i64 0))), none⟩])
  (.block 0 lo_laws_heldOutMoveS_0))
  (.ghost (.kill [0, 5]) (.seq (.post (.reg [⟨(some 31), .op (.mv (.tmp 1)), none⟩,
    ⟨(some 4), .op (.mv (.tmp 31)), none⟩]) (.kill [1, 31]))
  .ret))))
theorem cf_laws_heldOutMoveS : chkFn Try.prog i_laws_heldOutMoveS ac_laws_heldOutMoveS [.tmp 4] 32 = true := by decide +kernel
def fa_laws_heldOutMoveS : FnA := ⟨ac_laws_heldOutMoveS, [.tmp 4], 32, false, true⟩

/-- The checked code of laws heldOutMoveSS. -/
def lb_laws_heldOutMoveSS_0 : AC := (.seq (.seq (.post (.reg [⟨(some 6), .op (.mv (.tmp 5)), none⟩,
    ⟨(some 7), .op (.mv (.tmp 0)), none⟩,
    ⟨(some 8), .op (.len false (.tmp 7)), none⟩,
    ⟨(some 9), .op (.bin .lss (.tmp 6) (.tmp 8)), none⟩]) (.kill [6, 7, 8]))
  (.cond (.tmp 9) (.ghost (.kill [9]) .skip)
  (.ghost (.kill [0, 5, 9]) (.exit 0))))
  (.seq (.block 1 (.seq (.post (.reg [⟨(some 12), .op (.mv (.tmp 0)), none⟩,
    ⟨(some 13), .op (.mv (.tmp 5)), none⟩,
    ⟨(some 14), .op (.iaddrS (.tmp 12) (.tmp 13) 1), none⟩,
    ⟨(some 15), .op (.load 1 false (.tmp 14)), none⟩,
    ⟨(some 16), .op (.mv (.tmp 1)), none⟩,
    ⟨(some 17), .call (.func i_laws_heldOutMoveS) [(.tmp 15), (.tmp 16)], none⟩,
    ⟨(some 1), .op (.mv (.tmp 17)), none⟩]) (.kill [12, 13, 14, 15, 16, 17]))
  (.seq (.post (.reg [⟨(some 18), .op (.mv (.tmp 1)), none⟩,
    ⟨(some 19), .op (.bin .lss (.tmp 18) (.const (Value.int .i64 0))), none⟩]) (.kill [18]))
  (.cond (.tmp 19) (.ghost (.kill [0, 1, 5, 19]) (.seq (.reg [⟨(some 4), .op (.mv (.const (Value.int .i64 (-1)))), none⟩])
  .ret))
  (.ghost (.kill [19]) .skip)))))
  (.post (.reg [⟨(some 10), .op (.mv (.tmp 5)), none⟩,
    ⟨(some 11), .op (.bin .add (.tmp 10) (.const (Value.int .i64 1))), none⟩,
    ⟨(some 5), .op (.mv (.tmp 11)), none⟩]) (.kill [10, 11]))))
def lo_laws_heldOutMoveSS_0 : AC := (.loop lb_laws_heldOutMoveSS_0)
def ac_laws_heldOutMoveSS : AC := (.seq (.post (.reg [⟨(some 4), .op (.mv (.const (Value.int .i64 0))), none⟩]) (.kill [4]))
  (.seq (.seq (.reg [⟨(some 5), .op (.mv (.const (Value.int .i64 0))), none⟩])
  (.block 0 lo_laws_heldOutMoveSS_0))
  (.ghost (.kill [0, 5]) (.seq (.post (.reg [⟨(some 20), .op (.mv (.tmp 1)), none⟩,
    ⟨(some 4), .op (.mv (.tmp 20)), none⟩]) (.kill [1, 20]))
  .ret))))
theorem cf_laws_heldOutMoveSS : chkFn Try.prog i_laws_heldOutMoveSS ac_laws_heldOutMoveSS [.tmp 4] 21 = true := by decide +kernel
def fa_laws_heldOutMoveSS : FnA := ⟨ac_laws_heldOutMoveSS, [.tmp 4], 21, false, true⟩

/-- The checked code of laws heldOutMoveSSS. -/
def lb_laws_heldOutMoveSSS_0 : AC := (.seq (.seq (.post (.reg [⟨(some 6), .op (.mv (.tmp 5)), none⟩,
    ⟨(some 7), .op (.mv (.tmp 0)), none⟩,
    ⟨(some 8), .op (.len false (.tmp 7)), none⟩,
    ⟨(some 9), .op (.bin .lss (.tmp 6) (.tmp 8)), none⟩]) (.kill [6, 7, 8]))
  (.cond (.tmp 9) (.ghost (.kill [9]) .skip)
  (.ghost (.kill [0, 5, 9]) (.exit 0))))
  (.seq (.block 1 (.seq (.post (.reg [⟨(some 12), .op (.mv (.tmp 0)), none⟩,
    ⟨(some 13), .op (.mv (.tmp 5)), none⟩,
    ⟨(some 14), .op (.iaddrS (.tmp 12) (.tmp 13) 1), none⟩,
    ⟨(some 15), .op (.load 1 false (.tmp 14)), none⟩,
    ⟨(some 16), .op (.mv (.tmp 1)), none⟩,
    ⟨(some 17), .call (.func i_laws_heldOutMoveSS) [(.tmp 15), (.tmp 16)], none⟩,
    ⟨(some 1), .op (.mv (.tmp 17)), none⟩]) (.kill [12, 13, 14, 15, 16, 17]))
  (.seq (.post (.reg [⟨(some 18), .op (.mv (.tmp 1)), none⟩,
    ⟨(some 19), .op (.bin .lss (.tmp 18) (.const (Value.int .i64 0))), none⟩]) (.kill [18]))
  (.cond (.tmp 19) (.ghost (.kill [0, 1, 5, 19]) (.seq (.reg [⟨(some 4), .op (.mv (.const (Value.int .i64 (-1)))), none⟩])
  .ret))
  (.ghost (.kill [19]) .skip)))))
  (.post (.reg [⟨(some 10), .op (.mv (.tmp 5)), none⟩,
    ⟨(some 11), .op (.bin .add (.tmp 10) (.const (Value.int .i64 1))), none⟩,
    ⟨(some 5), .op (.mv (.tmp 11)), none⟩]) (.kill [10, 11]))))
def lo_laws_heldOutMoveSSS_0 : AC := (.loop lb_laws_heldOutMoveSSS_0)
def ac_laws_heldOutMoveSSS : AC := (.seq (.post (.reg [⟨(some 4), .op (.mv (.const (Value.int .i64 0))), none⟩]) (.kill [4]))
  (.seq (.seq (.reg [⟨(some 5), .op (.mv (.const (Value.int .i64 0))), none⟩])
  (.block 0 lo_laws_heldOutMoveSSS_0))
  (.ghost (.kill [0, 5]) (.seq (.post (.reg [⟨(some 20), .op (.mv (.tmp 1)), none⟩,
    ⟨(some 4), .op (.mv (.tmp 20)), none⟩]) (.kill [1, 20]))
  .ret))))
theorem cf_laws_heldOutMoveSSS : chkFn Try.prog i_laws_heldOutMoveSSS ac_laws_heldOutMoveSSS [.tmp 4] 21 = true := by decide +kernel
def fa_laws_heldOutMoveSSS : FnA := ⟨ac_laws_heldOutMoveSSS, [.tmp 4], 21, false, true⟩

/-- The checked code of laws heldRewriter. -/
def ac_laws_heldRewriter : AC := (.seq (.post (.reg [⟨(some 2), .op (.box true (.tmp 0)), none⟩,
    ⟨(some 4), .op (.mv (.const (Value.int .i64 0))), none⟩]) (.kill [0, 4]))
  (.seq (.post (.reg [⟨(some 5), .op (.faddr (.tmp 2) 2), none⟩,
    ⟨(some 6), .op (.load 1 false (.tmp 5)), none⟩,
    ⟨(some 7), .op (.mv (.tmp 1)), none⟩,
    ⟨(some 8), .call (.func i_laws_heldOutPushSS) [(.tmp 6), (.tmp 7)], none⟩,
    ⟨(some 1), .op (.mv (.tmp 8)), none⟩]) (.kill [5, 6, 7, 8]))
  (.seq (.seq (.post (.reg [⟨(some 9), .op (.mv (.tmp 1)), none⟩,
    ⟨(some 10), .op (.bin .lss (.tmp 9) (.const (Value.int .i64 0))), none⟩]) (.kill [9]))
  (.cond (.tmp 10) (.ghost (.kill [1, 2, 10]) (.seq (.reg [⟨(some 4), .op (.mv (.const (Value.int .i64 (-1)))), none⟩])
  .ret))
  (.ghost (.kill [10]) .skip)))
  (.seq (.post (.reg [⟨(some 11), .op (.faddr (.tmp 2) 3), none⟩,
    ⟨(some 12), .op (.load 1 false (.tmp 11)), none⟩,
    ⟨(some 13), .op (.mv (.tmp 1)), none⟩,
    ⟨(some 14), .call (.func i_laws_heldOutMoveSSS) [(.tmp 12), (.tmp 13)], none⟩,
    ⟨(some 1), .op (.mv (.tmp 14)), none⟩]) (.kill [11, 12, 13, 14]))
  (.seq (.seq (.post (.reg [⟨(some 15), .op (.mv (.tmp 1)), none⟩,
    ⟨(some 16), .op (.bin .lss (.tmp 15) (.const (Value.int .i64 0))), none⟩]) (.kill [15]))
  (.cond (.tmp 16) (.ghost (.kill [1, 2, 16]) (.seq (.reg [⟨(some 4), .op (.mv (.const (Value.int .i64 (-1)))), none⟩])
  .ret))
  (.ghost (.kill [16]) .skip)))
  (.seq (.post (.reg [⟨(some 17), .op (.faddr (.tmp 2) 4), none⟩,
    ⟨(some 18), .op (.load 1 false (.tmp 17)), none⟩,
    ⟨(some 19), .op (.mv (.tmp 1)), none⟩,
    ⟨(some 20), .call (.func i_laws_heldOutMoveSS) [(.tmp 18), (.tmp 19)], none⟩,
    ⟨(some 1), .op (.mv (.tmp 20)), none⟩]) (.kill [2, 17, 18, 19, 20]))
  (.seq (.seq (.post (.reg [⟨(some 21), .op (.mv (.tmp 1)), none⟩,
    ⟨(some 22), .op (.bin .lss (.tmp 21) (.const (Value.int .i64 0))), none⟩]) (.kill [21]))
  (.cond (.tmp 22) (.ghost (.kill [1, 22]) (.seq (.reg [⟨(some 4), .op (.mv (.const (Value.int .i64 (-1)))), none⟩])
  .ret))
  (.ghost (.kill [22]) .skip)))
  (.seq (.post (.reg [⟨(some 23), .op (.mv (.tmp 1)), none⟩,
    ⟨(some 4), .op (.mv (.tmp 23)), none⟩]) (.kill [1, 23]))
  .ret))))))))
theorem cf_laws_heldRewriter : chkFn Try.prog i_laws_heldRewriter ac_laws_heldRewriter [.tmp 4] 24 = true := by decide +kernel
def fa_laws_heldRewriter : FnA := ⟨ac_laws_heldRewriter, [.tmp 4], 24, false, true⟩

end Go.Proofs.Ytpjadhjjeafffaa
