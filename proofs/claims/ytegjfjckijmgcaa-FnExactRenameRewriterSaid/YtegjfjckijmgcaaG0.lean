/- The code of the functions, checked against the loaded program; printed by a program (gen2.py). -/
import Derived.Test.YtegjfjckijmgcaaProg
import Derived.Test.YtegjfjckijmgcaaAw25
set_option linter.unusedVariables false
set_option maxRecDepth 100000
namespace Go.Proofs.Ytegjfjckijmgcaa
open Aw

/-! The numbers of the functions. -/
def i_laws_FnExactRenameRewriter : FuncId := 9
def i_spec_RenameRewriter : FuncId := 47
def i_impl_RenameRewriter : FuncId := 48
def i_laws_eqRewriter : FuncId := 49
def i_laws_markRewriter : FuncId := 50
def i_laws_heldRewriter : FuncId := 51
def i_spec_l01Ok : FuncId := 77
def i_impl_ValidWord : FuncId := 85
def i_spec_l01Call : FuncId := 118
def i_spec_l01Return : FuncId := 119
def i_spec_l06Plain : FuncId := 120
def i_impl_isCall : FuncId := 121
def i_impl_isReturn : FuncId := 122
def i_impl_isInner : FuncId := 123
def i_impl_renaming : FuncId := 124
def i_impl_RenameRewriter_1 : FuncId := 125
def i_laws_eqOutPushSS : FuncId := 126
def i_laws_eqOutMoveSSS : FuncId := 127
def i_laws_eqOutMoveSS : FuncId := 128
def i_laws_markOutPushSS : FuncId := 129
def i_laws_markOutMoveSSS : FuncId := 130
def i_laws_markOutMoveSS : FuncId := 131
def i_laws_heldOutPushSS : FuncId := 132
def i_laws_heldOutMoveSSS : FuncId := 133
def i_laws_heldOutMoveSS : FuncId := 134
def i_spec_l01Symbol : FuncId := 175
def i_strings_IndexByte : FuncId := 185
def i_impl_builtRewriter : FuncId := 203
def i_impl_renaming_1 : FuncId := 204
def i_impl_renaming_2 : FuncId := 205
def i_impl_renaming_3 : FuncId := 206
def i_laws_eqOutPushS : FuncId := 207
def i_laws_eqOutMoveS : FuncId := 208
def i_laws_markOutPushS : FuncId := 209
def i_laws_markOutMoveS : FuncId := 210
def i_laws_heldOutPushS : FuncId := 211
def i_laws_heldOutMoveS : FuncId := 212
def i_internal_stringslite_IndexByte : FuncId := 244
def i_laws_markText : FuncId := 261
def i_laws_eqOutPush : FuncId := 262
def i_laws_eqOutMove : FuncId := 263
def i_internal_bytealg_IndexByteString : FuncId := 278

/-- The checked code of spec l01Symbol. -/
def lb_spec_l01Symbol_0 : AC := (.seq (.seq (.post (.reg [⟨(some 4), .op (.mv (.tmp 3)), none⟩,
    ⟨(some 5), .op (.bin .lss (.tmp 4) (.const (Value.int .i64 6))), none⟩]) (.kill [4]))
  (.cond (.tmp 5) (.ghost (.kill [5]) .skip)
  (.ghost (.kill [0, 3, 5]) (.exit 0))))
  (.seq (.block 1 (.seq (.post (.reg [⟨(some 8), .op (.mv (.tmp 3)), none⟩,
    ⟨(some 9), .op (.idxStr (.const (Value.string ⟨#[40, 91, 41, 93, 97, 98]⟩)) (.tmp 8)), none⟩,
    ⟨(some 10), .op (.mv (.tmp 0)), none⟩,
    ⟨(some 11), .op (.bin .eql (.tmp 9) (.tmp 10)), none⟩]) (.kill [8, 9, 10]))
  (.cond (.tmp 11) (.ghost (.kill [0, 11]) (.seq (.post (.reg [⟨(some 12), .op (.mv (.tmp 3)), none⟩,
    ⟨(some 2), .op (.mv (.tmp 12)), none⟩]) (.kill [3, 12]))
  .ret))
  (.ghost (.kill [11]) .skip))))
  (.post (.reg [⟨(some 6), .op (.mv (.tmp 3)), none⟩,
    ⟨(some 7), .op (.bin .add (.tmp 6) (.const (Value.int .i64 1))), none⟩,
    ⟨(some 3), .op (.mv (.tmp 7)), none⟩]) (.kill [6, 7]))))
def lo_spec_l01Symbol_0 : AC := (.loop lb_spec_l01Symbol_0)
def ac_spec_l01Symbol : AC := (.seq (.post (.reg [⟨(some 2), .op (.mv (.const (Value.int .i64 0))), none⟩]) (.kill [2]))
  (.seq (.seq (.reg [⟨(some 3), .op (.mv (.const (Value.int .i64 0))), none⟩])
  (.block 0 lo_spec_l01Symbol_0))
  (.ghost (.kill [0, 3]) (.seq (.reg [⟨(some 2), .op (.mv (.const (Value.int .i64 (-1)))), none⟩])
  .ret))))
theorem cf_spec_l01Symbol : chkFn Try.prog i_spec_l01Symbol ac_spec_l01Symbol [.tmp 2] 13 = true := by decide +kernel
def fa_spec_l01Symbol : FnA := ⟨ac_spec_l01Symbol, [.tmp 2], 13, false, true, [], .any, none⟩

/-- The checked code of spec l01Ok. -/
def lb_spec_l01Ok_0 : AC := (.seq (.seq (.post (.reg [⟨(some 4), .op (.mv (.tmp 3)), none⟩,
    ⟨(some 5), .op (.mv (.tmp 0)), none⟩,
    ⟨(some 6), .op (.len true (.tmp 5)), none⟩,
    ⟨(some 7), .op (.bin .lss (.tmp 4) (.tmp 6)), none⟩]) (.kill [4, 5, 6]))
  (.cond (.tmp 7) (.ghost (.kill [7]) .skip)
  (.ghost (.kill [3, 7]) (.exit 0))))
  (.seq (.block 1 (.seq (.post (.reg [⟨(some 10), .op (.mv (.tmp 0)), none⟩,
    ⟨(some 11), .op (.mv (.tmp 3)), none⟩,
    ⟨(some 12), .op (.idxStr (.tmp 10) (.tmp 11)), none⟩,
    ⟨(some 13), .call (.func i_spec_l01Symbol) [(.tmp 12)], none⟩,
    ⟨(some 14), .op (.bin .lss (.tmp 13) (.const (Value.int .i64 0))), none⟩]) (.kill [10, 11, 12, 13]))
  (.cond (.tmp 14) (.ghost (.kill [0, 3, 14]) (.seq (.reg [⟨(some 2), .op (.mv (.const (Value.bool false))), none⟩])
  .ret))
  (.ghost (.kill [14]) .skip))))
  (.post (.reg [⟨(some 8), .op (.mv (.tmp 3)), none⟩,
    ⟨(some 9), .op (.bin .add (.tmp 8) (.const (Value.int .i64 1))), none⟩,
    ⟨(some 3), .op (.mv (.tmp 9)), none⟩]) (.kill [8, 9]))))
def lo_spec_l01Ok_0 : AC := (.loop lb_spec_l01Ok_0)
def ac_spec_l01Ok : AC := (.seq (.post (.reg [⟨(some 2), .op (.mv (.const (Value.bool false))), none⟩]) (.kill [2]))
  (.seq (.seq (.reg [⟨(some 3), .op (.mv (.const (Value.int .i64 0))), none⟩])
  (.block 0 lo_spec_l01Ok_0))
  (.ghost (.kill [3]) (.seq (.post (.reg [⟨(some 15), .op (.mv (.tmp 0)), none⟩,
    ⟨(some 16), .op (.len true (.tmp 15)), none⟩,
    ⟨(some 17), .op (.bin .leq (.tmp 16) (.const (Value.int .i64 60))), none⟩,
    ⟨(some 2), .op (.mv (.tmp 17)), none⟩]) (.kill [0, 15, 16, 17]))
  .ret))))
theorem cf_spec_l01Ok : chkFn Try.prog i_spec_l01Ok ac_spec_l01Ok [.tmp 2] 18 = true := by decide +kernel
def fa_spec_l01Ok : FnA := ⟨ac_spec_l01Ok, [.tmp 2], 18, false, true, [], .any, none⟩

/-- The checked code of spec l01Call. -/
def ac_spec_l01Call : AC := (.seq (.post (.reg [⟨(some 2), .op (.mv (.const (Value.bool false))), none⟩]) (.kill [2]))
  (.seq (.post (.reg [⟨(some 3), .op (.mv (.tmp 0)), none⟩,
    ⟨(some 4), .op (.bin .eql (.tmp 3) (.const (Value.int .u8 40))), none⟩,
    ⟨(some 5), .op (.mv (.tmp 4)), none⟩,
    ⟨(some 6), .op (.mv (.tmp 0)), some (5, false)⟩,
    ⟨(some 7), .op (.bin .eql (.tmp 6) (.const (Value.int .u8 91))), some (5, false)⟩,
    ⟨(some 8), .op (.pick (.tmp 5) (.const (Value.bool true)) (.tmp 7)), none⟩,
    ⟨(some 2), .op (.mv (.tmp 8)), none⟩]) (.kill [0, 3, 4, 5, 6, 7, 8]))
  .ret))
theorem cf_spec_l01Call : chkFn Try.prog i_spec_l01Call ac_spec_l01Call [.tmp 2] 9 = true := by decide +kernel
def fa_spec_l01Call : FnA := ⟨ac_spec_l01Call, [.tmp 2], 9, false, true, [], .any, none⟩

/-- The checked code of spec l01Return. -/
def ac_spec_l01Return : AC := (.seq (.post (.reg [⟨(some 2), .op (.mv (.const (Value.bool false))), none⟩]) (.kill [2]))
  (.seq (.post (.reg [⟨(some 3), .op (.mv (.tmp 0)), none⟩,
    ⟨(some 4), .op (.bin .eql (.tmp 3) (.const (Value.int .u8 41))), none⟩,
    ⟨(some 5), .op (.mv (.tmp 4)), none⟩,
    ⟨(some 6), .op (.mv (.tmp 0)), some (5, false)⟩,
    ⟨(some 7), .op (.bin .eql (.tmp 6) (.const (Value.int .u8 93))), some (5, false)⟩,
    ⟨(some 8), .op (.pick (.tmp 5) (.const (Value.bool true)) (.tmp 7)), none⟩,
    ⟨(some 2), .op (.mv (.tmp 8)), none⟩]) (.kill [0, 3, 4, 5, 6, 7, 8]))
  .ret))
theorem cf_spec_l01Return : chkFn Try.prog i_spec_l01Return ac_spec_l01Return [.tmp 2] 9 = true := by decide +kernel
def fa_spec_l01Return : FnA := ⟨ac_spec_l01Return, [.tmp 2], 9, false, true, [], .any, none⟩

/-- The checked code of spec l06Plain. -/
def lb_spec_l06Plain_0 : AC := (.post (.seq (.seq (.post (.reg [⟨(some 39), .op (.mv (.tmp 8)), none⟩,
    ⟨(some 40), .op (.mv (.tmp 1)), none⟩,
    ⟨(some 41), .op (.bin .leq (.tmp 39) (.tmp 40)), none⟩]) (.kill [39, 40]))
  (.cond (.tmp 41) (.ghost (.kill [41]) .skip)
  (.ghost (.kill [8, 41]) (.exit 2))))
  (.seq (.block 3 (.seq (.post (.post (.reg [⟨(some 44), .op (.mv (.tmp 7)), none⟩,
    ⟨(some 45), .op (.mv (.tmp 7)), none⟩,
    ⟨(some 46), .op (.iaddrS (.tmp 45) (.const (Value.int .i64 0)) 1), none⟩,
    ⟨(some 47), .op (.load 1 false (.tmp 46)), none⟩,
    ⟨(some 48), .op (.mv (.tmp 6)), none⟩,
    ⟨(some 49), .op (.build [Value.int .i64 0, Value.string ⟨#[]⟩] [(0, 1, (.tmp 48)), (1, 1, (.const (Value.string ⟨#[41]⟩)))]), none⟩,
    ⟨(some 50), .op (.lits true 2 1 (Value.agg #[Value.int .i64 0, Value.string ⟨#[]⟩]) [(0, (.tmp 49))]), none⟩,
    ⟨(some 51), .op (.append (.tmp 47) (.tmp 50) 2 24), none⟩,
    ⟨(some 52), .op (.iaddrS (.tmp 44) (.const (Value.int .i64 0)) 1), none⟩,
    ⟨none, .op (.store 1 (.tmp 52) (.tmp 51)), none⟩]) (.kill [44, 45, 46, 47, 48, 49, 50, 51, 52])) .nv)
  (.post (.post (.reg [⟨(some 53), .op (.mv (.tmp 7)), none⟩,
    ⟨(some 54), .op (.mv (.tmp 7)), none⟩,
    ⟨(some 55), .op (.iaddrS (.tmp 54) (.const (Value.int .i64 1)) 1), none⟩,
    ⟨(some 56), .op (.load 1 false (.tmp 55)), none⟩,
    ⟨(some 57), .op (.mv (.tmp 6)), none⟩,
    ⟨(some 58), .op (.build [Value.int .i64 0, Value.string ⟨#[]⟩] [(0, 1, (.tmp 57)), (1, 1, (.const (Value.string ⟨#[93]⟩)))]), none⟩,
    ⟨(some 59), .op (.lits true 2 1 (Value.agg #[Value.int .i64 0, Value.string ⟨#[]⟩]) [(0, (.tmp 58))]), none⟩,
    ⟨(some 60), .op (.append (.tmp 56) (.tmp 59) 2 24), none⟩,
    ⟨(some 61), .op (.iaddrS (.tmp 53) (.const (Value.int .i64 1)) 1), none⟩,
    ⟨none, .op (.store 1 (.tmp 61) (.tmp 60)), none⟩]) (.kill [53, 54, 55, 56, 57, 58, 59, 60, 61])) .nv)))
  (.post (.reg [⟨(some 42), .op (.mv (.tmp 8)), none⟩,
    ⟨(some 43), .op (.bin .add (.tmp 42) (.const (Value.int .i64 1))), none⟩,
    ⟨(some 8), .op (.mv (.tmp 43)), none⟩]) (.kill [42, 43])))) .nv)
def lo_spec_l06Plain_0 : AC := (.loop lb_spec_l06Plain_0)
def lb_spec_l06Plain_1 : AC := (.post (.seq (.seq (.post (.reg [⟨(some 11), .op (.mv (.tmp 6)), none⟩,
    ⟨(some 12), .op (.mv (.tmp 0)), none⟩,
    ⟨(some 13), .op (.bin .lss (.tmp 11) (.tmp 12)), none⟩]) (.kill [11, 12]))
  (.cond (.tmp 13) (.ghost (.kill [13]) .skip)
  (.ghost (.kill [0, 1, 6, 13]) (.exit 0))))
  (.seq (.block 1 (.seq (.post (.post (.reg [⟨(some 16), .op (.faddr (.tmp 5) 2), none⟩,
    ⟨(some 17), .op (.load 1 false (.tmp 16)), none⟩,
    ⟨(some 18), .op (.mv (.tmp 6)), none⟩,
    ⟨(some 19), .op (.build [Value.int .i64 0, Value.int .i64 0, Value.string ⟨#[]⟩] [(0, 1, (.tmp 18)), (2, 1, (.const (Value.string ⟨#[40]⟩)))]), none⟩,
    ⟨(some 20), .op (.mv (.tmp 6)), none⟩,
    ⟨(some 21), .op (.build [Value.int .i64 0, Value.int .i64 0, Value.string ⟨#[]⟩] [(0, 1, (.tmp 20)), (2, 1, (.const (Value.string ⟨#[91]⟩)))]), none⟩,
    ⟨(some 22), .op (.lits false 3 2 (Value.agg #[Value.int .i64 0, Value.int .i64 0, Value.string ⟨#[]⟩]) [(0, (.tmp 19)), (1, (.tmp 21))]), none⟩,
    ⟨(some 23), .op (.lits true 1 1 (Value.slice none 0 0) [(0, (.tmp 22))]), none⟩,
    ⟨(some 24), .op (.append (.tmp 17) (.tmp 23) 1 24), none⟩,
    ⟨(some 25), .op (.faddr (.tmp 5) 2), none⟩,
    ⟨none, .op (.store 1 (.tmp 25) (.tmp 24)), none⟩]) (.kill [16, 17, 18, 19, 20, 21, 22, 23, 24, 25])) .nv)
  (.seq (.post (.post (.reg [⟨(some 26), .op (.faddr (.tmp 5) 4), none⟩,
    ⟨(some 27), .op (.load 1 false (.tmp 26)), none⟩,
    ⟨(some 28), .op (.mv (.tmp 6)), none⟩,
    ⟨(some 29), .op (.build [Value.int .i64 0, Value.string ⟨#[]⟩] [(0, 1, (.tmp 28)), (1, 1, (.const (Value.string ⟨#[97]⟩)))]), none⟩,
    ⟨(some 30), .op (.mv (.tmp 6)), none⟩,
    ⟨(some 31), .op (.build [Value.int .i64 0, Value.string ⟨#[]⟩] [(0, 1, (.tmp 30)), (1, 1, (.const (Value.string ⟨#[98]⟩)))]), none⟩,
    ⟨(some 32), .op (.lits false 2 2 (Value.agg #[Value.int .i64 0, Value.string ⟨#[]⟩]) [(0, (.tmp 29)), (1, (.tmp 31))]), none⟩,
    ⟨(some 33), .op (.lits true 1 1 (Value.slice none 0 0) [(0, (.tmp 32))]), none⟩,
    ⟨(some 34), .op (.append (.tmp 27) (.tmp 33) 1 24), none⟩,
    ⟨(some 35), .op (.faddr (.tmp 5) 4), none⟩,
    ⟨none, .op (.store 1 (.tmp 35) (.tmp 34)), none⟩]) (.kill [26, 27, 28, 29, 30, 31, 32, 33, 34, 35])) .nv)
  (.seq (.post (.reg [⟨(some 36), .op (.lits true 2 0 (Value.agg #[Value.int .i64 0, Value.string ⟨#[]⟩]) []), none⟩,
    ⟨(some 37), .op (.lits true 2 0 (Value.agg #[Value.int .i64 0, Value.string ⟨#[]⟩]) []), none⟩,
    ⟨(some 38), .op (.lits false 1 2 (Value.slice none 0 0) [(0, (.tmp 36)), (1, (.tmp 37))]), none⟩,
    ⟨(some 7), .op (.mv (.tmp 38)), none⟩]) (.kill [36, 37, 38]))
  (.seq (.seq (.reg [⟨(some 8), .op (.mv (.const (Value.int .i64 0))), none⟩])
  (.post (.block 2 (.ghost (.ow 5 (some 2) 1) (.ghost (.ow 5 (some 3) 1) (.ghost (.ow 5 (some 4) 1) (.ghost .nv lo_spec_l06Plain_0))))) .nv))
  (.ghost (.kill [8]) (.post (.post (.reg [⟨(some 62), .op (.faddr (.tmp 5) 3), none⟩,
    ⟨(some 63), .op (.load 1 false (.tmp 62)), none⟩,
    ⟨(some 64), .op (.mv (.tmp 7)), none⟩,
    ⟨(some 65), .op (.lits true 1 1 (Value.slice none 0 0) [(0, (.tmp 64))]), none⟩,
    ⟨(some 66), .op (.append (.tmp 63) (.tmp 65) 1 24), none⟩,
    ⟨(some 67), .op (.faddr (.tmp 5) 3), none⟩,
    ⟨none, .op (.store 1 (.tmp 67) (.tmp 66)), none⟩]) (.kill [7, 62, 63, 64, 65, 66, 67])) .nv)))))))
  (.post (.reg [⟨(some 14), .op (.mv (.tmp 6)), none⟩,
    ⟨(some 15), .op (.bin .add (.tmp 14) (.const (Value.int .i64 1))), none⟩,
    ⟨(some 6), .op (.mv (.tmp 15)), none⟩]) (.kill [14, 15])))) .nv)
def lo_spec_l06Plain_1 : AC := (.loop lb_spec_l06Plain_1)
def ac_spec_l06Plain : AC := (.seq (.reg [⟨(some 4), .op (.alloc (Value.agg #[Value.int .i64 0, Value.int .i64 0, Value.slice none 0 0, Value.slice none 0 0, Value.slice none 0 0])), none⟩])
  (.seq (.post (.reg [⟨(some 9), .op (.mv (.tmp 1)), none⟩,
    ⟨(some 10), .op (.build [Value.int .i64 0, Value.int .i64 0, Value.slice none 0 0, Value.slice none 0 0, Value.slice none 0 0] [(0, 1, (.tmp 9))]), none⟩,
    ⟨(some 5), .op (.alloc (Value.agg #[Value.int .i64 0, Value.int .i64 0, Value.slice none 0 0, Value.slice none 0 0, Value.slice none 0 0])), none⟩,
    ⟨none, .op (.store 5 (.tmp 5) (.tmp 10)), none⟩]) (.kill [9, 10]))
  (.seq (.seq (.reg [⟨(some 6), .op (.mv (.const (Value.int .i64 0))), none⟩])
  (.post (.block 0 (.ghost (.ow 5 (some 2) 1) (.ghost (.ow 5 (some 3) 1) (.ghost (.ow 5 (some 4) 1) (.ghost .nv lo_spec_l06Plain_1))))) .nv))
  (.ghost (.kill [0, 1, 6]) (.seq (.post (.reg [⟨(some 68), .op (.load 5 true (.tmp 5)), none⟩,
    ⟨none, .op (.store 5 (.tmp 4) (.tmp 68)), none⟩]) (.kill [5, 68]))
  .ret)))))
theorem cf_spec_l06Plain : chkFn Try.prog i_spec_l06Plain ac_spec_l06Plain [.cell 4 5 true] 69 = true := by decide +kernel
def fa_spec_l06Plain : FnA := ⟨ac_spec_l06Plain, [.cell 4 5 true], 69, false, false, [], .any, none⟩

/-- The checked code of spec RenameRewriter. -/
def lb_spec_RenameRewriter_0 : AC := (.post (.seq (.seq (.post (.reg [⟨(some 50), .op (.mv (.tmp 5)), none⟩,
    ⟨(some 51), .op (.bin .lss (.tmp 50) (.const (Value.int .i64 2))), none⟩]) (.kill [50]))
  (.cond (.tmp 51) (.ghost (.kill [51]) .skip)
  (.ghost (.kill [0, 5, 51]) (.exit 0))))
  (.seq (.block 1 (.seq (.post (.draw [⟨0, ⟨(some 54), .op (.faddr (.tmp 4) 2), none⟩, []⟩,
    ⟨1, ⟨(some 55), .op (.load 1 false (.tmp 54)), none⟩, []⟩,
    ⟨2, ⟨(some 56), .op (.iaddrS (.tmp 55) (.const (Value.int .i64 0)) 1), none⟩, []⟩,
    ⟨3, ⟨(some 57), .op (.load 1 false (.tmp 56)), none⟩, []⟩,
    ⟨4, ⟨(some 58), .op (.mv (.tmp 5)), none⟩, []⟩,
    ⟨5, ⟨(some 59), .op (.mv (.tmp 0)), none⟩, []⟩,
    ⟨6, ⟨(some 60), .op (.mv (.tmp 5)), none⟩, []⟩,
    ⟨7, ⟨(some 61), .op (.mv (.tmp 5)), none⟩, []⟩,
    ⟨8, ⟨(some 62), .op (.bin .add (.tmp 61) (.const (Value.int .i64 1))), none⟩, []⟩,
    ⟨9, ⟨(some 63), .op (.slcStr (.tmp 59) (some (.tmp 60)) (some (.tmp 62))), none⟩, []⟩,
    ⟨10, ⟨(some 64), .op (.iaddrS (.tmp 57) (.tmp 58) 3), none⟩, []⟩,
    ⟨11, ⟨(some 65), .op (.faddr (.tmp 64) 2), none⟩, []⟩,
    ⟨12, ⟨none, .op (.store 1 (.tmp 65) (.tmp 63)), none⟩, []⟩]
    [0, 1, 3, 7, 0, 0, 0, 0, 128, 480, 1023, 2047, 4095]) (.kill [54, 55, 56, 57, 58, 59, 60, 61, 62, 63, 64, 65]))
  (.seq (.post (.draw [⟨0, ⟨(some 66), .op (.faddr (.tmp 4) 3), none⟩, []⟩,
    ⟨1, ⟨(some 67), .op (.load 1 false (.tmp 66)), none⟩, []⟩,
    ⟨2, ⟨(some 68), .op (.iaddrS (.tmp 67) (.const (Value.int .i64 0)) 1), none⟩, []⟩,
    ⟨3, ⟨(some 69), .op (.load 1 false (.tmp 68)), none⟩, []⟩,
    ⟨4, ⟨(some 70), .op (.mv (.tmp 5)), none⟩, []⟩,
    ⟨5, ⟨(some 71), .op (.iaddrS (.tmp 69) (.tmp 70) 1), none⟩, []⟩,
    ⟨6, ⟨(some 72), .op (.load 1 false (.tmp 71)), none⟩, []⟩,
    ⟨7, ⟨(some 73), .op (.mv (.tmp 0)), none⟩, []⟩,
    ⟨8, ⟨(some 74), .op (.mv (.tmp 5)), none⟩, []⟩,
    ⟨9, ⟨(some 75), .op (.bin .add (.const (Value.int .i64 2)) (.tmp 74)), none⟩, []⟩,
    ⟨10, ⟨(some 76), .op (.mv (.tmp 5)), none⟩, []⟩,
    ⟨11, ⟨(some 77), .op (.bin .add (.const (Value.int .i64 3)) (.tmp 76)), none⟩, []⟩,
    ⟨12, ⟨(some 78), .op (.slcStr (.tmp 73) (some (.tmp 75)) (some (.tmp 77))), none⟩, []⟩,
    ⟨13, ⟨(some 79), .op (.iaddrS (.tmp 72) (.const (Value.int .i64 0)) 2), none⟩, []⟩,
    ⟨14, ⟨(some 80), .op (.faddr (.tmp 79) 1), none⟩, []⟩,
    ⟨15, ⟨none, .op (.store 1 (.tmp 80) (.tmp 78)), none⟩, []⟩]
    [0, 1, 3, 7, 0, 31, 63, 0, 0, 256, 0, 1024, 3968, 8191, 16383, 32767]) (.kill [66, 67, 68, 69, 70, 71, 72, 73, 74, 75, 76, 77, 78, 79, 80]))
  (.seq (.post (.draw [⟨0, ⟨(some 81), .op (.faddr (.tmp 4) 3), none⟩, []⟩,
    ⟨1, ⟨(some 82), .op (.load 1 false (.tmp 81)), none⟩, []⟩,
    ⟨2, ⟨(some 83), .op (.iaddrS (.tmp 82) (.const (Value.int .i64 0)) 1), none⟩, []⟩,
    ⟨3, ⟨(some 84), .op (.load 1 false (.tmp 83)), none⟩, []⟩,
    ⟨4, ⟨(some 85), .op (.mv (.tmp 5)), none⟩, []⟩,
    ⟨5, ⟨(some 86), .op (.iaddrS (.tmp 84) (.tmp 85) 1), none⟩, []⟩,
    ⟨6, ⟨(some 87), .op (.load 1 false (.tmp 86)), none⟩, []⟩,
    ⟨7, ⟨(some 88), .op (.mv (.tmp 0)), none⟩, []⟩,
    ⟨8, ⟨(some 89), .op (.mv (.tmp 5)), none⟩, []⟩,
    ⟨9, ⟨(some 90), .op (.bin .add (.const (Value.int .i64 2)) (.tmp 89)), none⟩, []⟩,
    ⟨10, ⟨(some 91), .op (.mv (.tmp 5)), none⟩, []⟩,
    ⟨11, ⟨(some 92), .op (.bin .add (.const (Value.int .i64 3)) (.tmp 91)), none⟩, []⟩,
    ⟨12, ⟨(some 93), .op (.slcStr (.tmp 88) (some (.tmp 90)) (some (.tmp 92))), none⟩, []⟩,
    ⟨13, ⟨(some 94), .op (.iaddrS (.tmp 87) (.const (Value.int .i64 1)) 2), none⟩, []⟩,
    ⟨14, ⟨(some 95), .op (.faddr (.tmp 94) 1), none⟩, []⟩,
    ⟨15, ⟨none, .op (.store 1 (.tmp 95) (.tmp 93)), none⟩, []⟩]
    [0, 1, 3, 7, 0, 31, 63, 0, 0, 256, 0, 1024, 3968, 8191, 16383, 32767]) (.kill [81, 82, 83, 84, 85, 86, 87, 88, 89, 90, 91, 92, 93, 94, 95]))
  (.post (.draw [⟨0, ⟨(some 96), .op (.faddr (.tmp 4) 4), none⟩, []⟩,
    ⟨1, ⟨(some 97), .op (.load 1 false (.tmp 96)), none⟩, []⟩,
    ⟨2, ⟨(some 98), .op (.iaddrS (.tmp 97) (.const (Value.int .i64 0)) 1), none⟩, []⟩,
    ⟨3, ⟨(some 99), .op (.load 1 false (.tmp 98)), none⟩, []⟩,
    ⟨4, ⟨(some 100), .op (.mv (.tmp 5)), none⟩, []⟩,
    ⟨5, ⟨(some 101), .op (.mv (.tmp 0)), none⟩, []⟩,
    ⟨6, ⟨(some 102), .op (.mv (.tmp 5)), none⟩, []⟩,
    ⟨7, ⟨(some 103), .op (.bin .add (.const (Value.int .i64 4)) (.tmp 102)), none⟩, []⟩,
    ⟨8, ⟨(some 104), .op (.mv (.tmp 5)), none⟩, []⟩,
    ⟨9, ⟨(some 105), .op (.bin .add (.const (Value.int .i64 5)) (.tmp 104)), none⟩, []⟩,
    ⟨10, ⟨(some 106), .op (.slcStr (.tmp 101) (some (.tmp 103)) (some (.tmp 105))), none⟩, []⟩,
    ⟨11, ⟨(some 107), .op (.iaddrS (.tmp 99) (.tmp 100) 2), none⟩, []⟩,
    ⟨12, ⟨(some 108), .op (.faddr (.tmp 107) 1), none⟩, []⟩,
    ⟨13, ⟨none, .op (.store 1 (.tmp 108) (.tmp 106)), none⟩, []⟩]
    [0, 1, 3, 7, 0, 0, 0, 64, 0, 256, 992, 2047, 4095, 8191]) (.kill [96, 97, 98, 99, 100, 101, 102, 103, 104, 105, 106, 107, 108]))))))
  (.post (.reg [⟨(some 52), .op (.mv (.tmp 5)), none⟩,
    ⟨(some 53), .op (.bin .add (.tmp 52) (.const (Value.int .i64 1))), none⟩,
    ⟨(some 5), .op (.mv (.tmp 53)), none⟩]) (.kill [52, 53])))) .nv)
def lo_spec_RenameRewriter_0 : AC := (.loop lb_spec_RenameRewriter_0)
def ac_spec_RenameRewriter : AC := (.seq (.post (.reg [⟨(some 2), .op (.alloc (Value.agg #[Value.int .i64 0, Value.int .i64 0, Value.slice none 0 0, Value.slice none 0 0, Value.slice none 0 0])), none⟩,
    ⟨(some 3), .op (.mv (.const (Value.int .i64 0))), none⟩]) (.kill [3]))
  (.seq (.seq (.post (.reg [⟨(some 6), .op (.mv (.tmp 0)), none⟩,
    ⟨(some 7), .op (.len true (.tmp 6)), none⟩,
    ⟨(some 8), .op (.bin .neq (.tmp 7) (.const (Value.int .i64 6))), none⟩,
    ⟨(some 9), .op (.mv (.tmp 8)), none⟩,
    ⟨(some 10), .op (.mv (.tmp 0)), some (9, false)⟩,
    ⟨(some 11), .call (.func i_spec_l01Ok) [(.tmp 10)], some (9, false)⟩,
    ⟨(some 12), .op (.un .not (.tmp 11)), some (9, false)⟩,
    ⟨(some 13), .op (.pick (.tmp 9) (.const (Value.bool true)) (.tmp 12)), none⟩,
    ⟨(some 14), .op (.mv (.tmp 13)), none⟩,
    ⟨(some 15), .op (.mv (.tmp 0)), some (14, false)⟩,
    ⟨(some 16), .op (.idxStr (.tmp 15) (.const (Value.int .i64 0))), some (14, false)⟩,
    ⟨(some 17), .call (.func i_spec_l01Call) [(.tmp 16)], some (14, false)⟩,
    ⟨(some 18), .op (.un .not (.tmp 17)), some (14, false)⟩,
    ⟨(some 19), .op (.pick (.tmp 14) (.const (Value.bool true)) (.tmp 18)), none⟩,
    ⟨(some 20), .op (.mv (.tmp 19)), none⟩,
    ⟨(some 21), .op (.mv (.tmp 0)), some (20, false)⟩,
    ⟨(some 22), .op (.idxStr (.tmp 21) (.const (Value.int .i64 1))), some (20, false)⟩,
    ⟨(some 23), .call (.func i_spec_l01Call) [(.tmp 22)], some (20, false)⟩,
    ⟨(some 24), .op (.un .not (.tmp 23)), some (20, false)⟩,
    ⟨(some 25), .op (.pick (.tmp 20) (.const (Value.bool true)) (.tmp 24)), none⟩,
    ⟨(some 26), .op (.mv (.tmp 25)), none⟩,
    ⟨(some 27), .op (.mv (.tmp 0)), some (26, false)⟩,
    ⟨(some 28), .op (.idxStr (.tmp 27) (.const (Value.int .i64 2))), some (26, false)⟩,
    ⟨(some 29), .call (.func i_spec_l01Return) [(.tmp 28)], some (26, false)⟩,
    ⟨(some 30), .op (.un .not (.tmp 29)), some (26, false)⟩,
    ⟨(some 31), .op (.pick (.tmp 26) (.const (Value.bool true)) (.tmp 30)), none⟩,
    ⟨(some 32), .op (.mv (.tmp 31)), none⟩,
    ⟨(some 33), .op (.mv (.tmp 0)), some (32, false)⟩,
    ⟨(some 34), .op (.idxStr (.tmp 33) (.const (Value.int .i64 3))), some (32, false)⟩,
    ⟨(some 35), .call (.func i_spec_l01Return) [(.tmp 34)], some (32, false)⟩,
    ⟨(some 36), .op (.un .not (.tmp 35)), some (32, false)⟩,
    ⟨(some 37), .op (.pick (.tmp 32) (.const (Value.bool true)) (.tmp 36)), none⟩,
    ⟨(some 38), .op (.mv (.tmp 37)), none⟩,
    ⟨(some 39), .op (.mv (.tmp 0)), some (38, false)⟩,
    ⟨(some 40), .op (.idxStr (.tmp 39) (.const (Value.int .i64 4))), some (38, false)⟩,
    ⟨(some 41), .op (.bin .lss (.tmp 40) (.const (Value.int .u8 97))), some (38, false)⟩,
    ⟨(some 42), .op (.pick (.tmp 38) (.const (Value.bool true)) (.tmp 41)), none⟩,
    ⟨(some 43), .op (.mv (.tmp 42)), none⟩,
    ⟨(some 44), .op (.mv (.tmp 0)), some (43, false)⟩,
    ⟨(some 45), .op (.idxStr (.tmp 44) (.const (Value.int .i64 5))), some (43, false)⟩,
    ⟨(some 46), .op (.bin .lss (.tmp 45) (.const (Value.int .u8 97))), some (43, false)⟩,
    ⟨(some 47), .op (.pick (.tmp 43) (.const (Value.bool true)) (.tmp 46)), none⟩]) (.kill [6, 7, 8, 9, 10, 11, 12, 13, 14, 15, 16, 17, 18, 19, 20, 21, 22, 23, 24, 25, 26, 27, 28, 29, 30, 31, 32, 33, 34, 35, 36, 37, 38, 39, 40, 41, 42, 43, 44, 45, 46]))
  (.cond (.tmp 47) (.ghost (.kill [0, 47]) (.seq (.post (.reg [⟨(some 48), .op (.build [Value.int .i64 0, Value.int .i64 0, Value.slice none 0 0, Value.slice none 0 0, Value.slice none 0 0] []), none⟩,
    ⟨none, .op (.store 5 (.tmp 2) (.tmp 48)), none⟩,
    ⟨(some 3), .op (.mv (.const (Value.int .i64 2))), none⟩]) (.kill [48]))
  .ret))
  (.ghost (.kill [47]) .skip)))
  (.seq (.post (.reg [⟨(some 49), .call (.func i_spec_l06Plain) [(.const (Value.int .i64 1)), (.const (Value.int .i64 1))], none⟩,
    ⟨(some 4), .op (.alloc (Value.agg #[Value.int .i64 0, Value.int .i64 0, Value.slice none 0 0, Value.slice none 0 0, Value.slice none 0 0])), none⟩,
    ⟨none, .op (.store 5 (.tmp 4) (.tmp 49)), none⟩]) (.kill [49]))
  (.seq (.seq (.reg [⟨(some 5), .op (.mv (.const (Value.int .i64 0))), none⟩])
  (.post (.block 0 (.ghost .nv lo_spec_RenameRewriter_0)) .nv))
  (.ghost (.kill [0, 5]) (.seq (.post (.reg [⟨(some 109), .op (.load 5 true (.tmp 4)), none⟩,
    ⟨none, .op (.store 5 (.tmp 2) (.tmp 109)), none⟩,
    ⟨(some 3), .op (.mv (.const (Value.int .i64 0))), none⟩]) (.kill [4, 109]))
  .ret))))))
theorem cf_spec_RenameRewriter : chkFn Try.prog i_spec_RenameRewriter ac_spec_RenameRewriter [.cell 2 5 true, .tmp 3] 110 = true := by decide +kernel
def fa_spec_RenameRewriter : FnA := ⟨ac_spec_RenameRewriter, [.cell 2 5 true, .tmp 3], 110, false, true, [], .any, none⟩

/-- The checked code of stringslite IndexByte. -/
def ac_internal_stringslite_IndexByte : AC := (.seq (.post (.reg [⟨(some 4), .op (.mv (.const (Value.int .i64 0))), none⟩]) (.kill [4]))
  (.seq (.post (.reg [⟨(some 5), .op (.mv (.tmp 0)), none⟩,
    ⟨(some 6), .op (.mv (.tmp 1)), none⟩,
    ⟨(some 7), .op (.idxb i_internal_bytealg_IndexByteString (.tmp 5) (.tmp 6)), none⟩,
    ⟨(some 4), .op (.mv (.tmp 7)), none⟩]) (.kill [0, 1, 5, 6, 7]))
  .ret))
theorem cf_internal_stringslite_IndexByte : chkFn Try.prog i_internal_stringslite_IndexByte ac_internal_stringslite_IndexByte [.tmp 4] 8 = true := by decide +kernel
def fa_internal_stringslite_IndexByte : FnA := ⟨ac_internal_stringslite_IndexByte, [.tmp 4], 8, false, true, [], .any, none⟩

/-- The checked code of strings IndexByte. -/
def ac_strings_IndexByte : AC := (.seq (.post (.reg [⟨(some 4), .op (.mv (.const (Value.int .i64 0))), none⟩]) (.kill [4]))
  (.seq (.post (.reg [⟨(some 5), .op (.mv (.tmp 0)), none⟩,
    ⟨(some 6), .op (.mv (.tmp 1)), none⟩,
    ⟨(some 7), .call (.func i_internal_stringslite_IndexByte) [(.tmp 5), (.tmp 6)], none⟩,
    ⟨(some 4), .op (.mv (.tmp 7)), none⟩]) (.kill [0, 1, 5, 6, 7]))
  .ret))
theorem cf_strings_IndexByte : chkFn Try.prog i_strings_IndexByte ac_strings_IndexByte [.tmp 4] 8 = true := by decide +kernel
def fa_strings_IndexByte : FnA := ⟨ac_strings_IndexByte, [.tmp 4], 8, false, true, [], .any, none⟩

/-- The checked code of impl ValidWord. -/
def lb_impl_ValidWord_0 : AC := (.seq (.reg [⟨(some 7), .op (.bin .lss (.tmp 6) (.tmp 5)), none⟩])
  (.seq (.cond (.tmp 7) (.ghost (.kill [7]) .skip)
  (.ghost (.kill [5, 6, 7]) (.exit 0)))
  (.seq (.block 1 (.seq (.post (.reg [⟨(some 8), .op (.mv (.tmp 6)), none⟩,
    ⟨(some 3), .op (.mv (.tmp 8)), none⟩]) (.kill [8]))
  (.seq (.post (.reg [⟨(some 9), .op (.mv (.tmp 0)), none⟩,
    ⟨(some 10), .op (.mv (.tmp 3)), none⟩,
    ⟨(some 11), .op (.idxStr (.tmp 9) (.tmp 10)), none⟩,
    ⟨(some 12), .call (.func i_strings_IndexByte) [(.const (Value.string ⟨#[40, 91, 41, 93, 97, 98]⟩)), (.tmp 11)], none⟩,
    ⟨(some 13), .op (.bin .lss (.tmp 12) (.const (Value.int .i64 0))), none⟩]) (.kill [3, 9, 10, 11, 12]))
  (.cond (.tmp 13) (.ghost (.kill [0, 5, 6, 13]) (.seq (.reg [⟨(some 2), .op (.mv (.const (Value.bool false))), none⟩])
  .ret))
  (.ghost (.kill [13]) .skip)))))
  (.post (.reg [⟨(some 14), .op (.bin .add (.tmp 6) (.const (Value.int .i64 1))), none⟩,
    ⟨(some 6), .op (.mv (.tmp 14)), none⟩]) (.kill [14])))))
def lo_impl_ValidWord_0 : AC := (.loop lb_impl_ValidWord_0)
def ac_impl_ValidWord : AC := (.seq (.post (.reg [⟨(some 2), .op (.mv (.const (Value.bool false))), none⟩]) (.kill [2]))
  (.seq (.seq (.post (.reg [⟨(some 4), .op (.mv (.tmp 0)), none⟩,
    ⟨(some 5), .op (.len true (.tmp 4)), none⟩,
    ⟨(some 6), .op (.mv (.const (Value.int .i64 0))), none⟩]) (.kill [4]))
  (.block 0 lo_impl_ValidWord_0))
  (.ghost (.kill [5, 6]) (.seq (.post (.reg [⟨(some 15), .op (.mv (.tmp 0)), none⟩,
    ⟨(some 16), .op (.len true (.tmp 15)), none⟩,
    ⟨(some 17), .op (.bin .leq (.tmp 16) (.const (Value.int .i64 60))), none⟩,
    ⟨(some 2), .op (.mv (.tmp 17)), none⟩]) (.kill [0, 15, 16, 17]))
  .ret))))
theorem cf_impl_ValidWord : chkFn Try.prog i_impl_ValidWord ac_impl_ValidWord [.tmp 2] 18 = true := by decide +kernel
def fa_impl_ValidWord : FnA := ⟨ac_impl_ValidWord, [.tmp 2], 18, false, true, [], .any, none⟩

/-- The checked code of impl isCall. -/
def ac_impl_isCall : AC := (.seq (.post (.reg [⟨(some 2), .op (.mv (.const (Value.bool false))), none⟩]) (.kill [2]))
  (.seq (.post (.reg [⟨(some 3), .op (.mv (.tmp 0)), none⟩,
    ⟨(some 4), .op (.bin .eql (.tmp 3) (.const (Value.int .u8 40))), none⟩,
    ⟨(some 5), .op (.mv (.tmp 4)), none⟩,
    ⟨(some 6), .op (.mv (.tmp 0)), some (5, false)⟩,
    ⟨(some 7), .op (.bin .eql (.tmp 6) (.const (Value.int .u8 91))), some (5, false)⟩,
    ⟨(some 8), .op (.pick (.tmp 5) (.const (Value.bool true)) (.tmp 7)), none⟩,
    ⟨(some 2), .op (.mv (.tmp 8)), none⟩]) (.kill [0, 3, 4, 5, 6, 7, 8]))
  .ret))
theorem cf_impl_isCall : chkFn Try.prog i_impl_isCall ac_impl_isCall [.tmp 2] 9 = true := by decide +kernel
def fa_impl_isCall : FnA := ⟨ac_impl_isCall, [.tmp 2], 9, false, true, [], .any, none⟩

/-- The checked code of impl isReturn. -/
def ac_impl_isReturn : AC := (.seq (.post (.reg [⟨(some 2), .op (.mv (.const (Value.bool false))), none⟩]) (.kill [2]))
  (.seq (.post (.reg [⟨(some 3), .op (.mv (.tmp 0)), none⟩,
    ⟨(some 4), .op (.bin .eql (.tmp 3) (.const (Value.int .u8 41))), none⟩,
    ⟨(some 5), .op (.mv (.tmp 4)), none⟩,
    ⟨(some 6), .op (.mv (.tmp 0)), some (5, false)⟩,
    ⟨(some 7), .op (.bin .eql (.tmp 6) (.const (Value.int .u8 93))), some (5, false)⟩,
    ⟨(some 8), .op (.pick (.tmp 5) (.const (Value.bool true)) (.tmp 7)), none⟩,
    ⟨(some 2), .op (.mv (.tmp 8)), none⟩]) (.kill [0, 3, 4, 5, 6, 7, 8]))
  .ret))
theorem cf_impl_isReturn : chkFn Try.prog i_impl_isReturn ac_impl_isReturn [.tmp 2] 9 = true := by decide +kernel
def fa_impl_isReturn : FnA := ⟨ac_impl_isReturn, [.tmp 2], 9, false, true, [], .any, none⟩

/-- The checked code of impl isInner. -/
def ac_impl_isInner : AC := (.seq (.post (.reg [⟨(some 2), .op (.mv (.const (Value.bool false))), none⟩]) (.kill [2]))
  (.seq (.post (.reg [⟨(some 3), .op (.mv (.tmp 0)), none⟩,
    ⟨(some 4), .op (.bin .eql (.tmp 3) (.const (Value.int .u8 97))), none⟩,
    ⟨(some 5), .op (.mv (.tmp 4)), none⟩,
    ⟨(some 6), .op (.mv (.tmp 0)), some (5, false)⟩,
    ⟨(some 7), .op (.bin .eql (.tmp 6) (.const (Value.int .u8 98))), some (5, false)⟩,
    ⟨(some 8), .op (.pick (.tmp 5) (.const (Value.bool true)) (.tmp 7)), none⟩,
    ⟨(some 2), .op (.mv (.tmp 8)), none⟩]) (.kill [0, 3, 4, 5, 6, 7, 8]))
  .ret))
theorem cf_impl_isInner : chkFn Try.prog i_impl_isInner ac_impl_isInner [.tmp 2] 9 = true := by decide +kernel
def fa_impl_isInner : FnA := ⟨ac_impl_isInner, [.tmp 2], 9, false, true, [], .any, none⟩

/-- The checked code of impl builtRewriter. -/
def lb_impl_builtRewriter_0 : AC := (.post (.seq (.reg [⟨(some 38), .op (.bin .lss (.tmp 37) (.tmp 36)), none⟩])
  (.seq (.cond (.tmp 38) (.ghost (.kill [38]) .skip)
  (.ghost (.kill [36, 37, 38]) (.exit 4)))
  (.seq (.block 5 (.seq (.post (.reg [⟨(some 39), .op (.mv (.tmp 37)), none⟩,
    ⟨(some 20), .op (.mv (.tmp 39)), none⟩]) (.kill [39]))
  (.post (.post (.reg [⟨(some 40), .op (.mv (.tmp 19)), none⟩,
    ⟨(some 41), .op (.mv (.tmp 4)), none⟩,
    ⟨(some 42), .op (.mv (.tmp 14)), none⟩,
    ⟨(some 43), .op (.mv (.tmp 18)), none⟩,
    ⟨(some 44), .op (.mv (.tmp 20)), none⟩,
    ⟨(some 45), .call (.tmp 41) [(.tmp 42), (.tmp 43), (.tmp 44)], none⟩,
    ⟨(some 46), .op (.lits true 2 1 (Value.agg #[Value.int .i64 0, Value.string ⟨#[]⟩]) [(0, (.tmp 45))]), none⟩,
    ⟨(some 47), .op (.append (.tmp 40) (.tmp 46) 2 24), none⟩,
    ⟨(some 19), .op (.mv (.tmp 47)), none⟩]) (.kill [20, 40, 41, 42, 43, 44, 45, 46, 47])) .nv)))
  (.post (.reg [⟨(some 48), .op (.bin .add (.tmp 37) (.const (Value.int .i64 1))), none⟩,
    ⟨(some 37), .op (.mv (.tmp 48)), none⟩]) (.kill [48]))))) .nv)
def lo_impl_builtRewriter_0 : AC := (.loop lb_impl_builtRewriter_0)
def lb_impl_builtRewriter_1 : AC := (.post (.seq (.reg [⟨(some 32), .op (.bin .lss (.tmp 31) (.const (Value.int .i64 2))), none⟩])
  (.seq (.cond (.tmp 32) (.ghost (.kill [32]) .skip)
  (.ghost (.kill [14, 31, 32]) (.exit 2)))
  (.seq (.block 3 (.seq (.post (.reg [⟨(some 33), .op (.mv (.tmp 31)), none⟩,
    ⟨(some 18), .op (.mv (.tmp 33)), none⟩]) (.kill [33]))
  (.seq (.post (.reg [⟨(some 34), .op (.lits true 2 0 (Value.agg #[Value.int .i64 0, Value.string ⟨#[]⟩]) []), none⟩,
    ⟨(some 19), .op (.mv (.tmp 34)), none⟩]) (.kill [34]))
  (.seq (.seq (.post (.reg [⟨(some 35), .op (.mv (.tmp 1)), none⟩,
    ⟨(some 36), .op (.bin .add (.tmp 35) (.const (Value.int .i64 1))), none⟩,
    ⟨(some 37), .op (.mv (.const (Value.int .i64 0))), none⟩]) (.kill [35]))
  (.post (.block 4 (.ghost (.ow 13 (some 2) 1) (.ghost (.ow 13 (some 3) 1) (.ghost (.ow 13 (some 4) 1) (.ghost (.ow 15 none 3) (.ghost (.ow 16 none 1) (.ghost (.ow 17 none 2) (.ghost (.ow 19 none 2) (.ghost .nv lo_impl_builtRewriter_0))))))))) .nv))
  (.ghost (.kill [36, 37]) (.post (.post (.reg [⟨(some 49), .op (.mv (.tmp 15)), none⟩,
    ⟨(some 50), .op (.mv (.tmp 3)), none⟩,
    ⟨(some 51), .op (.mv (.tmp 14)), none⟩,
    ⟨(some 52), .op (.mv (.tmp 18)), none⟩,
    ⟨(some 53), .call (.tmp 50) [(.tmp 51), (.tmp 52)], none⟩,
    ⟨(some 54), .op (.lits true 3 1 (Value.agg #[Value.int .i64 0, Value.int .i64 0, Value.string ⟨#[]⟩]) [(0, (.tmp 53))]), none⟩,
    ⟨(some 55), .op (.append (.tmp 49) (.tmp 54) 3 32), none⟩,
    ⟨(some 56), .op (.mv (.tmp 16)), none⟩,
    ⟨(some 57), .op (.mv (.tmp 19)), none⟩,
    ⟨(some 58), .op (.lits true 1 1 (Value.slice none 0 0) [(0, (.tmp 57))]), none⟩,
    ⟨(some 59), .op (.append (.tmp 56) (.tmp 58) 1 24), none⟩,
    ⟨(some 60), .op (.mv (.tmp 17)), none⟩,
    ⟨(some 61), .op (.mv (.tmp 5)), none⟩,
    ⟨(some 62), .op (.mv (.tmp 14)), none⟩,
    ⟨(some 63), .op (.mv (.tmp 18)), none⟩,
    ⟨(some 64), .call (.tmp 61) [(.tmp 62), (.tmp 63)], none⟩,
    ⟨(some 65), .op (.lits true 2 1 (Value.agg #[Value.int .i64 0, Value.string ⟨#[]⟩]) [(0, (.tmp 64))]), none⟩,
    ⟨(some 66), .op (.append (.tmp 60) (.tmp 65) 2 24), none⟩,
    ⟨(some 15), .op (.mv (.tmp 55)), none⟩,
    ⟨(some 16), .op (.mv (.tmp 59)), none⟩,
    ⟨(some 17), .op (.mv (.tmp 66)), none⟩]) (.kill [18, 19, 49, 50, 51, 52, 53, 54, 55, 56, 57, 58, 59, 60, 61, 62, 63, 64, 65, 66])) .nv))))))
  (.post (.reg [⟨(some 67), .op (.bin .add (.tmp 31) (.const (Value.int .i64 1))), none⟩,
    ⟨(some 31), .op (.mv (.tmp 67)), none⟩]) (.kill [67]))))) .nv)
def lo_impl_builtRewriter_1 : AC := (.loop lb_impl_builtRewriter_1)
def lb_impl_builtRewriter_2 : AC := (.post (.seq (.reg [⟨(some 26), .op (.bin .lss (.tmp 25) (.tmp 24)), none⟩])
  (.seq (.cond (.tmp 26) (.ghost (.kill [26]) .skip)
  (.ghost (.kill [1, 3, 4, 5, 24, 25, 26]) (.exit 0)))
  (.seq (.block 1 (.seq (.post (.reg [⟨(some 27), .op (.mv (.tmp 25)), none⟩,
    ⟨(some 14), .op (.mv (.tmp 27)), none⟩]) (.kill [27]))
  (.seq (.post (.reg [⟨(some 28), .op (.lits true 3 0 (Value.agg #[Value.int .i64 0, Value.int .i64 0, Value.string ⟨#[]⟩]) []), none⟩,
    ⟨(some 29), .op (.lits true 1 0 (Value.slice none 0 0) []), none⟩,
    ⟨(some 30), .op (.lits true 2 0 (Value.agg #[Value.int .i64 0, Value.string ⟨#[]⟩]) []), none⟩,
    ⟨(some 15), .op (.mv (.tmp 28)), none⟩,
    ⟨(some 16), .op (.mv (.tmp 29)), none⟩,
    ⟨(some 17), .op (.mv (.tmp 30)), none⟩]) (.kill [28, 29, 30]))
  (.seq (.seq (.reg [⟨(some 31), .op (.mv (.const (Value.int .i64 0))), none⟩])
  (.post (.block 2 (.ghost (.ow 13 (some 2) 1) (.ghost (.ow 13 (some 3) 1) (.ghost (.ow 13 (some 4) 1) (.ghost (.ow 15 none 3) (.ghost (.ow 16 none 1) (.ghost (.ow 17 none 2) (.ghost .nv lo_impl_builtRewriter_1)))))))) .nv))
  (.ghost (.kill [14, 31]) (.post (.post (.draw [⟨0, ⟨(some 68), .op (.faddr (.tmp 13) 2), none⟩, []⟩,
    ⟨1, ⟨(some 69), .op (.load 1 false (.tmp 68)), none⟩, []⟩,
    ⟨2, ⟨(some 70), .op (.mv (.tmp 15)), none⟩, []⟩,
    ⟨3, ⟨(some 71), .op (.lits true 1 1 (Value.slice none 0 0) [(0, (.tmp 70))]), none⟩, []⟩,
    ⟨5, ⟨(some 73), .op (.faddr (.tmp 13) 3), none⟩, []⟩,
    ⟨6, ⟨(some 74), .op (.load 1 false (.tmp 73)), none⟩, []⟩,
    ⟨7, ⟨(some 75), .op (.mv (.tmp 16)), none⟩, []⟩,
    ⟨8, ⟨(some 76), .op (.lits true 1 1 (Value.slice none 0 0) [(0, (.tmp 75))]), none⟩, []⟩,
    ⟨10, ⟨(some 78), .op (.faddr (.tmp 13) 4), none⟩, []⟩,
    ⟨11, ⟨(some 79), .op (.load 1 false (.tmp 78)), none⟩, []⟩,
    ⟨12, ⟨(some 80), .op (.mv (.tmp 17)), none⟩, []⟩,
    ⟨13, ⟨(some 81), .op (.lits true 1 1 (Value.slice none 0 0) [(0, (.tmp 80))]), none⟩, []⟩,
    ⟨4, ⟨(some 72), .op (.append (.tmp 69) (.tmp 71) 1 24), none⟩, [6, 11]⟩,
    ⟨15, ⟨(some 83), .op (.faddr (.tmp 13) 2), none⟩, []⟩,
    ⟨9, ⟨(some 77), .op (.append (.tmp 74) (.tmp 76) 1 24), none⟩, [11]⟩,
    ⟨14, ⟨(some 82), .op (.append (.tmp 79) (.tmp 81) 1 24), none⟩, []⟩,
    ⟨16, ⟨none, .op (.store 1 (.tmp 83) (.tmp 72)), none⟩, []⟩,
    ⟨17, ⟨(some 84), .op (.faddr (.tmp 13) 3), none⟩, []⟩,
    ⟨18, ⟨none, .op (.store 1 (.tmp 84) (.tmp 77)), none⟩, []⟩,
    ⟨19, ⟨(some 85), .op (.faddr (.tmp 13) 4), none⟩, []⟩,
    ⟨20, ⟨none, .op (.store 1 (.tmp 85) (.tmp 82)), none⟩, []⟩]
    [0, 1, 0, 4, 15, 0, 32, 0, 128, 511, 0, 1024, 0, 4096, 16383, 3199, 65535, 131071, 262143, 524287, 1048575]) (.kill [15, 16, 17, 68, 69, 70, 71, 72, 73, 74, 75, 76, 77, 78, 79, 80, 81, 82, 83, 84, 85])) .nv))))))
  (.post (.reg [⟨(some 86), .op (.bin .add (.tmp 25) (.const (Value.int .i64 1))), none⟩,
    ⟨(some 25), .op (.mv (.tmp 86)), none⟩]) (.kill [86]))))) .nv)
def lo_impl_builtRewriter_2 : AC := (.loop lb_impl_builtRewriter_2)
def ac_impl_builtRewriter : AC := (.seq (.reg [⟨(some 12), .op (.alloc (Value.agg #[Value.int .i64 0, Value.int .i64 0, Value.slice none 0 0, Value.slice none 0 0, Value.slice none 0 0])), none⟩])
  (.seq (.post (.reg [⟨(some 21), .op (.mv (.tmp 1)), none⟩,
    ⟨(some 22), .op (.mv (.tmp 2)), none⟩,
    ⟨(some 23), .op (.build [Value.int .i64 0, Value.int .i64 0, Value.slice none 0 0, Value.slice none 0 0, Value.slice none 0 0] [(0, 1, (.tmp 21)), (1, 1, (.tmp 22))]), none⟩,
    ⟨(some 13), .op (.alloc (Value.agg #[Value.int .i64 0, Value.int .i64 0, Value.slice none 0 0, Value.slice none 0 0, Value.slice none 0 0])), none⟩,
    ⟨none, .op (.store 5 (.tmp 13) (.tmp 23)), none⟩]) (.kill [2, 21, 22, 23]))
  (.seq (.seq (.post (.reg [⟨(some 24), .op (.mv (.tmp 0)), none⟩,
    ⟨(some 25), .op (.mv (.const (Value.int .i64 0))), none⟩]) (.kill [0]))
  (.post (.block 0 (.ghost (.ow 13 (some 2) 1) (.ghost (.ow 13 (some 3) 1) (.ghost (.ow 13 (some 4) 1) (.ghost .nv lo_impl_builtRewriter_2))))) .nv))
  (.ghost (.kill [1, 3, 4, 5, 24, 25]) (.seq (.post (.reg [⟨(some 87), .op (.load 5 true (.tmp 13)), none⟩,
    ⟨none, .op (.store 5 (.tmp 12) (.tmp 87)), none⟩]) (.kill [13, 87]))
  .ret)))))
theorem cf_impl_builtRewriter : chkFn Try.prog i_impl_builtRewriter ac_impl_builtRewriter [.cell 12 5 true] 88 = true := by decide +kernel
def fa_impl_builtRewriter : FnA := ⟨ac_impl_builtRewriter, [.cell 12 5 true], 88, false, false, [], .any, none⟩

/-- The checked code of impl renaming 1. -/
def ac_impl_renaming_1 : AC := (.ghost (.kill [0]) (.seq (.reg [⟨(some 5), .op (.alloc (Value.agg #[Value.int .i64 0, Value.int .i64 0, Value.string ⟨#[]⟩])), none⟩])
  (.seq (.post (.reg [⟨(some 6), .op (.load 1 false (.tmp 2)), none⟩,
    ⟨(some 7), .op (.mv (.tmp 1)), none⟩,
    ⟨(some 8), .call (.tmp 6) [(.tmp 7)], none⟩,
    ⟨(some 9), .op (.build [Value.int .i64 0, Value.int .i64 0, Value.string ⟨#[]⟩] [(2, 1, (.tmp 8))]), none⟩,
    ⟨none, .op (.store 3 (.tmp 5) (.tmp 9)), none⟩]) (.kill [1, 2, 6, 7, 8, 9]))
  .ret)))
theorem cf_impl_renaming_1 : chkFn Try.prog i_impl_renaming_1 ac_impl_renaming_1 [.cell 5 3 true] 10 = true := by decide +kernel
def fa_impl_renaming_1 : FnA := ⟨ac_impl_renaming_1, [.cell 5 3 true], 10, false, true, [], .any, none⟩

/-- The checked code of impl renaming 2. -/
def ac_impl_renaming_2 : AC := (.ghost (.kill [0, 2]) (.seq (.reg [⟨(some 7), .op (.alloc (Value.agg #[Value.int .i64 0, Value.string ⟨#[]⟩])), none⟩])
  (.seq (.post (.reg [⟨(some 8), .op (.load 1 false (.tmp 3)), none⟩,
    ⟨(some 9), .op (.mv (.tmp 1)), none⟩,
    ⟨(some 10), .op (.bin .add (.const (Value.int .i64 2)) (.tmp 9)), none⟩,
    ⟨(some 11), .call (.tmp 8) [(.tmp 10)], none⟩,
    ⟨(some 12), .op (.build [Value.int .i64 0, Value.string ⟨#[]⟩] [(1, 1, (.tmp 11))]), none⟩,
    ⟨none, .op (.store 2 (.tmp 7) (.tmp 12)), none⟩]) (.kill [1, 3, 8, 9, 10, 11, 12]))
  .ret)))
theorem cf_impl_renaming_2 : chkFn Try.prog i_impl_renaming_2 ac_impl_renaming_2 [.cell 7 2 true] 13 = true := by decide +kernel
def fa_impl_renaming_2 : FnA := ⟨ac_impl_renaming_2, [.cell 7 2 true], 13, false, true, [], .any, none⟩

/-- The checked code of impl renaming 3. -/
def ac_impl_renaming_3 : AC := (.ghost (.kill [0]) (.seq (.reg [⟨(some 5), .op (.alloc (Value.agg #[Value.int .i64 0, Value.string ⟨#[]⟩])), none⟩])
  (.seq (.post (.reg [⟨(some 6), .op (.load 1 false (.tmp 2)), none⟩,
    ⟨(some 7), .op (.mv (.tmp 1)), none⟩,
    ⟨(some 8), .op (.bin .add (.const (Value.int .i64 4)) (.tmp 7)), none⟩,
    ⟨(some 9), .call (.tmp 6) [(.tmp 8)], none⟩,
    ⟨(some 10), .op (.build [Value.int .i64 0, Value.string ⟨#[]⟩] [(1, 1, (.tmp 9))]), none⟩,
    ⟨none, .op (.store 2 (.tmp 5) (.tmp 10)), none⟩]) (.kill [1, 2, 6, 7, 8, 9, 10]))
  .ret)))
theorem cf_impl_renaming_3 : chkFn Try.prog i_impl_renaming_3 ac_impl_renaming_3 [.cell 5 2 true] 11 = true := by decide +kernel
def fa_impl_renaming_3 : FnA := ⟨ac_impl_renaming_3, [.cell 5 2 true], 11, false, true, [], .any, none⟩

/-- The checked code of impl renaming. -/
def ac_impl_renaming : AC := (.seq (.post (.reg [⟨(some 1), .op (.box true (.tmp 0)), none⟩,
    ⟨(some 2), .op (.alloc (Value.agg #[Value.int .i64 0, Value.int .i64 0, Value.slice none 0 0, Value.slice none 0 0, Value.slice none 0 0])), none⟩]) (.kill [0]))
  (.seq (.post (.reg [⟨(some 3), .op (.mkfn i_impl_renaming_1 [(.tmp 1)]), none⟩,
    ⟨(some 4), .op (.mkfn i_impl_renaming_2 [(.tmp 1)]), none⟩,
    ⟨(some 5), .op (.mkfn i_impl_renaming_3 [(.tmp 1)]), none⟩,
    ⟨(some 6), .call (.func i_impl_builtRewriter) [(.const (Value.int .i64 1)), (.const (Value.int .i64 1)), (.const (Value.int .i64 0)), (.tmp 3), (.tmp 4), (.tmp 5)], none⟩,
    ⟨none, .op (.store 5 (.tmp 2) (.tmp 6)), none⟩]) (.kill [1, 3, 4, 5, 6]))
  .ret))
theorem cf_impl_renaming : chkFn Try.prog i_impl_renaming ac_impl_renaming [.cell 2 5 true] 7 = true := by decide +kernel
def fa_impl_renaming : FnA := ⟨ac_impl_renaming, [.cell 2 5 true], 7, false, false, [], .any, none⟩

/-- The checked code of impl RenameRewriter 1. -/
def ac_impl_RenameRewriter_1 : AC := (.seq (.post (.reg [⟨(some 3), .op (.mv (.const (Value.string ⟨#[]⟩))), none⟩]) (.kill [3]))
  (.seq (.post (.reg [⟨(some 4), .op (.load 1 false (.tmp 1)), none⟩,
    ⟨(some 5), .op (.mv (.tmp 0)), none⟩,
    ⟨(some 6), .op (.mv (.tmp 0)), none⟩,
    ⟨(some 7), .op (.bin .add (.tmp 6) (.const (Value.int .i64 1))), none⟩,
    ⟨(some 8), .op (.slcStr (.tmp 4) (some (.tmp 5)) (some (.tmp 7))), none⟩,
    ⟨(some 3), .op (.mv (.tmp 8)), none⟩]) (.kill [0, 1, 4, 5, 6, 7, 8]))
  .ret))
theorem cf_impl_RenameRewriter_1 : chkFn Try.prog i_impl_RenameRewriter_1 ac_impl_RenameRewriter_1 [.tmp 3] 9 = true := by decide +kernel
def fa_impl_RenameRewriter_1 : FnA := ⟨ac_impl_RenameRewriter_1, [.tmp 3], 9, false, true, [], .any, none⟩

/-- The checked code of impl RenameRewriter. -/
def lb_impl_RenameRewriter_0 : AC := (.post (.seq (.reg [⟨(some 16), .op (.bin .lss (.tmp 15) (.const (Value.int .i64 6))), none⟩])
  (.seq (.cond (.tmp 16) (.ghost (.kill [16]) .skip)
  (.ghost (.kill [15, 16]) (.exit 0)))
  (.seq (.block 1 (.seq (.post (.reg [⟨(some 17), .op (.mv (.tmp 15)), none⟩,
    ⟨(some 4), .op (.mv (.tmp 17)), none⟩]) (.kill [17]))
  (.seq (.post (.reg [⟨(some 18), .op (.load 1 false (.tmp 1)), none⟩,
    ⟨(some 19), .op (.mv (.tmp 4)), none⟩,
    ⟨(some 20), .op (.idxStr (.tmp 18) (.tmp 19)), none⟩,
    ⟨(some 5), .op (.mv (.tmp 20)), none⟩]) (.kill [18, 19, 20]))
  (.seq (.post (.reg [⟨(some 21), .op (.mv (.tmp 4)), none⟩,
    ⟨(some 22), .op (.bin .lss (.tmp 21) (.const (Value.int .i64 2))), none⟩,
    ⟨(some 23), .op (.mv (.tmp 22)), none⟩,
    ⟨(some 24), .op (.mv (.tmp 5)), some (23, true)⟩,
    ⟨(some 25), .call (.func i_impl_isCall) [(.tmp 24)], some (23, true)⟩,
    ⟨(some 26), .op (.un .not (.tmp 25)), some (23, true)⟩,
    ⟨(some 27), .op (.pick (.tmp 23) (.tmp 26) (.const (Value.bool false))), none⟩,
    ⟨(some 28), .op (.mv (.tmp 27)), none⟩,
    ⟨(some 29), .op (.mv (.tmp 4)), some (28, false)⟩,
    ⟨(some 30), .op (.bin .geq (.tmp 29) (.const (Value.int .i64 2))), some (28, false)⟩,
    ⟨(some 31), .op (.mv (.tmp 30)), some (28, false)⟩,
    ⟨(some 32), .op (.mv (.tmp 4)), some (31, true)⟩,
    ⟨(some 33), .op (.bin .lss (.tmp 32) (.const (Value.int .i64 4))), some (31, true)⟩,
    ⟨(some 34), .op (.pick (.tmp 31) (.tmp 33) (.const (Value.bool false))), some (28, false)⟩,
    ⟨(some 35), .op (.mv (.tmp 34)), some (28, false)⟩,
    ⟨(some 36), .op (.mv (.tmp 5)), some (35, true)⟩,
    ⟨(some 37), .call (.func i_impl_isReturn) [(.tmp 36)], some (35, true)⟩,
    ⟨(some 38), .op (.un .not (.tmp 37)), some (35, true)⟩,
    ⟨(some 39), .op (.pick (.tmp 35) (.tmp 38) (.const (Value.bool false))), some (28, false)⟩,
    ⟨(some 40), .op (.pick (.tmp 28) (.const (Value.bool true)) (.tmp 39)), none⟩,
    ⟨(some 41), .op (.mv (.tmp 40)), none⟩,
    ⟨(some 42), .op (.mv (.tmp 4)), some (41, false)⟩,
    ⟨(some 43), .op (.bin .geq (.tmp 42) (.const (Value.int .i64 4))), some (41, false)⟩,
    ⟨(some 44), .op (.mv (.tmp 43)), some (41, false)⟩,
    ⟨(some 45), .op (.mv (.tmp 5)), some (44, true)⟩,
    ⟨(some 46), .call (.func i_impl_isInner) [(.tmp 45)], some (44, true)⟩,
    ⟨(some 47), .op (.un .not (.tmp 46)), some (44, true)⟩,
    ⟨(some 48), .op (.pick (.tmp 44) (.tmp 47) (.const (Value.bool false))), some (41, false)⟩,
    ⟨(some 49), .op (.pick (.tmp 41) (.const (Value.bool true)) (.tmp 48)), none⟩]) (.kill [4, 5, 21, 22, 23, 24, 25, 26, 27, 28, 29, 30, 31, 32, 33, 34, 35, 36, 37, 38, 39, 40, 41, 42, 43, 44, 45, 46, 47, 48]))
  (.cond (.tmp 49) (.ghost (.kill [1, 15, 49]) (.seq (.post (.reg [⟨(some 50), .op (.build [Value.int .i64 0, Value.int .i64 0, Value.slice none 0 0, Value.slice none 0 0, Value.slice none 0 0] []), none⟩,
    ⟨none, .op (.store 5 (.tmp 2) (.tmp 50)), none⟩,
    ⟨(some 3), .op (.mv (.const (Value.int .i64 2))), none⟩]) (.kill [50]))
  .ret))
  (.ghost (.kill [49]) .skip))))))
  (.post (.reg [⟨(some 51), .op (.bin .add (.tmp 15) (.const (Value.int .i64 1))), none⟩,
    ⟨(some 15), .op (.mv (.tmp 51)), none⟩]) (.kill [51]))))) .nv)
def lo_impl_RenameRewriter_0 : AC := (.loop lb_impl_RenameRewriter_0)
def ac_impl_RenameRewriter : AC := (.seq (.post (.reg [⟨(some 1), .op (.box true (.tmp 0)), none⟩,
    ⟨(some 2), .op (.alloc (Value.agg #[Value.int .i64 0, Value.int .i64 0, Value.slice none 0 0, Value.slice none 0 0, Value.slice none 0 0])), none⟩,
    ⟨(some 3), .op (.mv (.const (Value.int .i64 0))), none⟩]) (.kill [0, 3]))
  (.seq (.seq (.post (.reg [⟨(some 6), .op (.load 1 false (.tmp 1)), none⟩,
    ⟨(some 7), .op (.len true (.tmp 6)), none⟩,
    ⟨(some 8), .op (.bin .neq (.tmp 7) (.const (Value.int .i64 6))), none⟩,
    ⟨(some 9), .op (.mv (.tmp 8)), none⟩,
    ⟨(some 10), .op (.load 1 false (.tmp 1)), some (9, false)⟩,
    ⟨(some 11), .call (.func i_impl_ValidWord) [(.tmp 10)], some (9, false)⟩,
    ⟨(some 12), .op (.un .not (.tmp 11)), some (9, false)⟩,
    ⟨(some 13), .op (.pick (.tmp 9) (.const (Value.bool true)) (.tmp 12)), none⟩]) (.kill [6, 7, 8, 9, 10, 11, 12]))
  (.cond (.tmp 13) (.ghost (.kill [1, 13]) (.seq (.post (.reg [⟨(some 14), .op (.build [Value.int .i64 0, Value.int .i64 0, Value.slice none 0 0, Value.slice none 0 0, Value.slice none 0 0] []), none⟩,
    ⟨none, .op (.store 5 (.tmp 2) (.tmp 14)), none⟩,
    ⟨(some 3), .op (.mv (.const (Value.int .i64 2))), none⟩]) (.kill [14]))
  .ret))
  (.ghost (.kill [13]) .skip)))
  (.seq (.seq (.reg [⟨(some 15), .op (.mv (.const (Value.int .i64 0))), none⟩])
  (.post (.block 0 (.ghost .nv lo_impl_RenameRewriter_0)) .nv))
  (.ghost (.kill [15]) (.seq (.post (.reg [⟨(some 52), .op (.mkfn i_impl_RenameRewriter_1 [(.tmp 1)]), none⟩,
    ⟨(some 53), .call (.func i_impl_renaming) [(.tmp 52)], none⟩,
    ⟨none, .op (.store 5 (.tmp 2) (.tmp 53)), none⟩,
    ⟨(some 3), .op (.mv (.const (Value.int .i64 0))), none⟩]) (.kill [1, 52, 53]))
  .ret)))))
theorem cf_impl_RenameRewriter : chkFn Try.prog i_impl_RenameRewriter ac_impl_RenameRewriter [.cell 2 5 true, .tmp 3] 54 = true := by decide +kernel
def fa_impl_RenameRewriter : FnA := ⟨ac_impl_RenameRewriter, [.cell 2 5 true, .tmp 3], 54, false, false, [], .any, none⟩

/-- The checked code of laws eqOutPush. -/
def ac_laws_eqOutPush : AC := (.seq (.post (.reg [⟨(some 2), .op (.box true (.tmp 0)), none⟩,
    ⟨(some 3), .op (.box true (.tmp 1)), none⟩,
    ⟨(some 4), .op (.mv (.const (Value.bool false))), none⟩]) (.kill [0, 1, 4]))
  (.seq (.seq (.post (.reg [⟨(some 5), .op (.faddr (.tmp 2) 0), none⟩,
    ⟨(some 6), .op (.load 1 false (.tmp 5)), none⟩,
    ⟨(some 7), .op (.faddr (.tmp 3) 0), none⟩,
    ⟨(some 8), .op (.load 1 false (.tmp 7)), none⟩,
    ⟨(some 9), .op (.bin .neq (.tmp 6) (.tmp 8)), none⟩]) (.kill [5, 6, 7, 8]))
  (.cond (.tmp 9) (.ghost (.kill [2, 3, 9]) (.seq (.reg [⟨(some 4), .op (.mv (.const (Value.bool false))), none⟩])
  .ret))
  (.ghost (.kill [9]) .skip)))
  (.seq (.seq (.post (.reg [⟨(some 10), .op (.faddr (.tmp 2) 1), none⟩,
    ⟨(some 11), .op (.load 1 false (.tmp 10)), none⟩,
    ⟨(some 12), .op (.faddr (.tmp 3) 1), none⟩,
    ⟨(some 13), .op (.load 1 false (.tmp 12)), none⟩,
    ⟨(some 14), .op (.bin .neq (.tmp 11) (.tmp 13)), none⟩]) (.kill [10, 11, 12, 13]))
  (.cond (.tmp 14) (.ghost (.kill [2, 3, 14]) (.seq (.reg [⟨(some 4), .op (.mv (.const (Value.bool false))), none⟩])
  .ret))
  (.ghost (.kill [14]) .skip)))
  (.seq (.seq (.post (.reg [⟨(some 15), .op (.faddr (.tmp 2) 2), none⟩,
    ⟨(some 16), .op (.load 1 false (.tmp 15)), none⟩,
    ⟨(some 17), .op (.faddr (.tmp 3) 2), none⟩,
    ⟨(some 18), .op (.load 1 false (.tmp 17)), none⟩,
    ⟨(some 19), .op (.bin .neq (.tmp 16) (.tmp 18)), none⟩]) (.kill [2, 3, 15, 16, 17, 18]))
  (.cond (.tmp 19) (.ghost (.kill [19]) (.seq (.reg [⟨(some 4), .op (.mv (.const (Value.bool false))), none⟩])
  .ret))
  (.ghost (.kill [19]) .skip)))
  (.seq (.reg [⟨(some 4), .op (.mv (.const (Value.bool true))), none⟩])
  .ret)))))
theorem cf_laws_eqOutPush : chkFn Try.prog i_laws_eqOutPush ac_laws_eqOutPush [.tmp 4] 20 = true := by decide +kernel
def fa_laws_eqOutPush : FnA := ⟨ac_laws_eqOutPush, [.tmp 4], 20, false, true, [], .any, none⟩

/-- The checked code of laws eqOutPushS. -/
def lb_laws_eqOutPushS_0 : AC := (.seq (.seq (.post (.reg [⟨(some 11), .op (.mv (.tmp 5)), none⟩,
    ⟨(some 12), .op (.mv (.tmp 0)), none⟩,
    ⟨(some 13), .op (.len false (.tmp 12)), none⟩,
    ⟨(some 14), .op (.bin .lss (.tmp 11) (.tmp 13)), none⟩]) (.kill [11, 12, 13]))
  (.cond (.tmp 14) (.ghost (.kill [14]) .skip)
  (.ghost (.kill [0, 1, 5, 14]) (.exit 0))))
  (.seq (.block 1 (.seq (.post (.draw [⟨0, ⟨(some 17), .op (.mv (.tmp 0)), none⟩, []⟩,
    ⟨1, ⟨(some 18), .op (.mv (.tmp 5)), none⟩, []⟩,
    ⟨2, ⟨(some 19), .op (.iaddrS (.tmp 17) (.tmp 18) 3), none⟩, []⟩,
    ⟨3, ⟨(some 20), .op (.load 3 true (.tmp 19)), none⟩, []⟩,
    ⟨4, ⟨(some 21), .op (.mv (.tmp 1)), none⟩, []⟩,
    ⟨5, ⟨(some 22), .op (.mv (.tmp 5)), none⟩, []⟩,
    ⟨6, ⟨(some 23), .op (.iaddrS (.tmp 21) (.tmp 22) 3), none⟩, []⟩,
    ⟨7, ⟨(some 24), .op (.load 3 true (.tmp 23)), none⟩, []⟩,
    ⟨8, ⟨(some 25), .call (.func i_laws_eqOutPush) [(.tmp 20), (.tmp 24)], none⟩, []⟩,
    ⟨9, ⟨(some 26), .op (.un .not (.tmp 25)), none⟩, []⟩]
    [0, 0, 3, 7, 0, 0, 48, 112, 255, 511]) (.kill [17, 18, 19, 20, 21, 22, 23, 24, 25]))
  (.cond (.tmp 26) (.ghost (.kill [0, 1, 5, 26]) (.seq (.reg [⟨(some 4), .op (.mv (.const (Value.bool false))), none⟩])
  .ret))
  (.ghost (.kill [26]) .skip))))
  (.post (.reg [⟨(some 15), .op (.mv (.tmp 5)), none⟩,
    ⟨(some 16), .op (.bin .add (.tmp 15) (.const (Value.int .i64 1))), none⟩,
    ⟨(some 5), .op (.mv (.tmp 16)), none⟩]) (.kill [15, 16]))))
def lo_laws_eqOutPushS_0 : AC := (.loop lb_laws_eqOutPushS_0)
def ac_laws_eqOutPushS : AC := (.seq (.post (.reg [⟨(some 4), .op (.mv (.const (Value.bool false))), none⟩]) (.kill [4]))
  (.seq (.seq (.post (.reg [⟨(some 6), .op (.mv (.tmp 0)), none⟩,
    ⟨(some 7), .op (.len false (.tmp 6)), none⟩,
    ⟨(some 8), .op (.mv (.tmp 1)), none⟩,
    ⟨(some 9), .op (.len false (.tmp 8)), none⟩,
    ⟨(some 10), .op (.bin .neq (.tmp 7) (.tmp 9)), none⟩]) (.kill [6, 7, 8, 9]))
  (.cond (.tmp 10) (.ghost (.kill [0, 1, 10]) (.seq (.reg [⟨(some 4), .op (.mv (.const (Value.bool false))), none⟩])
  .ret))
  (.ghost (.kill [10]) .skip)))
  (.seq (.seq (.reg [⟨(some 5), .op (.mv (.const (Value.int .i64 0))), none⟩])
  (.block 0 lo_laws_eqOutPushS_0))
  (.ghost (.kill [0, 1, 5]) (.seq (.reg [⟨(some 4), .op (.mv (.const (Value.bool true))), none⟩])
  .ret)))))
theorem cf_laws_eqOutPushS : chkFn Try.prog i_laws_eqOutPushS ac_laws_eqOutPushS [.tmp 4] 27 = true := by decide +kernel
def fa_laws_eqOutPushS : FnA := ⟨ac_laws_eqOutPushS, [.tmp 4], 27, false, true, [], .any, none⟩

/-- The checked code of laws eqOutPushSS. -/
def lb_laws_eqOutPushSS_0 : AC := (.seq (.seq (.post (.reg [⟨(some 11), .op (.mv (.tmp 5)), none⟩,
    ⟨(some 12), .op (.mv (.tmp 0)), none⟩,
    ⟨(some 13), .op (.len false (.tmp 12)), none⟩,
    ⟨(some 14), .op (.bin .lss (.tmp 11) (.tmp 13)), none⟩]) (.kill [11, 12, 13]))
  (.cond (.tmp 14) (.ghost (.kill [14]) .skip)
  (.ghost (.kill [0, 1, 5, 14]) (.exit 0))))
  (.seq (.block 1 (.seq (.post (.draw [⟨0, ⟨(some 17), .op (.mv (.tmp 0)), none⟩, []⟩,
    ⟨1, ⟨(some 18), .op (.mv (.tmp 5)), none⟩, []⟩,
    ⟨2, ⟨(some 19), .op (.iaddrS (.tmp 17) (.tmp 18) 1), none⟩, []⟩,
    ⟨3, ⟨(some 20), .op (.load 1 false (.tmp 19)), none⟩, []⟩,
    ⟨4, ⟨(some 21), .op (.mv (.tmp 1)), none⟩, []⟩,
    ⟨5, ⟨(some 22), .op (.mv (.tmp 5)), none⟩, []⟩,
    ⟨6, ⟨(some 23), .op (.iaddrS (.tmp 21) (.tmp 22) 1), none⟩, []⟩,
    ⟨7, ⟨(some 24), .op (.load 1 false (.tmp 23)), none⟩, []⟩,
    ⟨8, ⟨(some 25), .call (.func i_laws_eqOutPushS) [(.tmp 20), (.tmp 24)], none⟩, []⟩,
    ⟨9, ⟨(some 26), .op (.un .not (.tmp 25)), none⟩, []⟩]
    [0, 0, 3, 7, 0, 0, 48, 112, 255, 511]) (.kill [17, 18, 19, 20, 21, 22, 23, 24, 25]))
  (.cond (.tmp 26) (.ghost (.kill [0, 1, 5, 26]) (.seq (.reg [⟨(some 4), .op (.mv (.const (Value.bool false))), none⟩])
  .ret))
  (.ghost (.kill [26]) .skip))))
  (.post (.reg [⟨(some 15), .op (.mv (.tmp 5)), none⟩,
    ⟨(some 16), .op (.bin .add (.tmp 15) (.const (Value.int .i64 1))), none⟩,
    ⟨(some 5), .op (.mv (.tmp 16)), none⟩]) (.kill [15, 16]))))
def lo_laws_eqOutPushSS_0 : AC := (.loop lb_laws_eqOutPushSS_0)
def ac_laws_eqOutPushSS : AC := (.seq (.post (.reg [⟨(some 4), .op (.mv (.const (Value.bool false))), none⟩]) (.kill [4]))
  (.seq (.seq (.post (.reg [⟨(some 6), .op (.mv (.tmp 0)), none⟩,
    ⟨(some 7), .op (.len false (.tmp 6)), none⟩,
    ⟨(some 8), .op (.mv (.tmp 1)), none⟩,
    ⟨(some 9), .op (.len false (.tmp 8)), none⟩,
    ⟨(some 10), .op (.bin .neq (.tmp 7) (.tmp 9)), none⟩]) (.kill [6, 7, 8, 9]))
  (.cond (.tmp 10) (.ghost (.kill [0, 1, 10]) (.seq (.reg [⟨(some 4), .op (.mv (.const (Value.bool false))), none⟩])
  .ret))
  (.ghost (.kill [10]) .skip)))
  (.seq (.seq (.reg [⟨(some 5), .op (.mv (.const (Value.int .i64 0))), none⟩])
  (.block 0 lo_laws_eqOutPushSS_0))
  (.ghost (.kill [0, 1, 5]) (.seq (.reg [⟨(some 4), .op (.mv (.const (Value.bool true))), none⟩])
  .ret)))))
theorem cf_laws_eqOutPushSS : chkFn Try.prog i_laws_eqOutPushSS ac_laws_eqOutPushSS [.tmp 4] 27 = true := by decide +kernel
def fa_laws_eqOutPushSS : FnA := ⟨ac_laws_eqOutPushSS, [.tmp 4], 27, false, true, [], .any, none⟩

/-- The checked code of laws eqOutMove. -/
def ac_laws_eqOutMove : AC := (.seq (.post (.reg [⟨(some 2), .op (.box true (.tmp 0)), none⟩,
    ⟨(some 3), .op (.box true (.tmp 1)), none⟩,
    ⟨(some 4), .op (.mv (.const (Value.bool false))), none⟩]) (.kill [0, 1, 4]))
  (.seq (.seq (.post (.reg [⟨(some 5), .op (.faddr (.tmp 2) 0), none⟩,
    ⟨(some 6), .op (.load 1 false (.tmp 5)), none⟩,
    ⟨(some 7), .op (.faddr (.tmp 3) 0), none⟩,
    ⟨(some 8), .op (.load 1 false (.tmp 7)), none⟩,
    ⟨(some 9), .op (.bin .neq (.tmp 6) (.tmp 8)), none⟩]) (.kill [5, 6, 7, 8]))
  (.cond (.tmp 9) (.ghost (.kill [2, 3, 9]) (.seq (.reg [⟨(some 4), .op (.mv (.const (Value.bool false))), none⟩])
  .ret))
  (.ghost (.kill [9]) .skip)))
  (.seq (.seq (.post (.reg [⟨(some 10), .op (.faddr (.tmp 2) 1), none⟩,
    ⟨(some 11), .op (.load 1 false (.tmp 10)), none⟩,
    ⟨(some 12), .op (.faddr (.tmp 3) 1), none⟩,
    ⟨(some 13), .op (.load 1 false (.tmp 12)), none⟩,
    ⟨(some 14), .op (.bin .neq (.tmp 11) (.tmp 13)), none⟩]) (.kill [2, 3, 10, 11, 12, 13]))
  (.cond (.tmp 14) (.ghost (.kill [14]) (.seq (.reg [⟨(some 4), .op (.mv (.const (Value.bool false))), none⟩])
  .ret))
  (.ghost (.kill [14]) .skip)))
  (.seq (.reg [⟨(some 4), .op (.mv (.const (Value.bool true))), none⟩])
  .ret))))
theorem cf_laws_eqOutMove : chkFn Try.prog i_laws_eqOutMove ac_laws_eqOutMove [.tmp 4] 15 = true := by decide +kernel
def fa_laws_eqOutMove : FnA := ⟨ac_laws_eqOutMove, [.tmp 4], 15, false, true, [], .any, none⟩

/-- The checked code of laws eqOutMoveS. -/
def lb_laws_eqOutMoveS_0 : AC := (.seq (.seq (.post (.reg [⟨(some 11), .op (.mv (.tmp 5)), none⟩,
    ⟨(some 12), .op (.mv (.tmp 0)), none⟩,
    ⟨(some 13), .op (.len false (.tmp 12)), none⟩,
    ⟨(some 14), .op (.bin .lss (.tmp 11) (.tmp 13)), none⟩]) (.kill [11, 12, 13]))
  (.cond (.tmp 14) (.ghost (.kill [14]) .skip)
  (.ghost (.kill [0, 1, 5, 14]) (.exit 0))))
  (.seq (.block 1 (.seq (.post (.draw [⟨0, ⟨(some 17), .op (.mv (.tmp 0)), none⟩, []⟩,
    ⟨1, ⟨(some 18), .op (.mv (.tmp 5)), none⟩, []⟩,
    ⟨2, ⟨(some 19), .op (.iaddrS (.tmp 17) (.tmp 18) 2), none⟩, []⟩,
    ⟨3, ⟨(some 20), .op (.load 2 true (.tmp 19)), none⟩, []⟩,
    ⟨4, ⟨(some 21), .op (.mv (.tmp 1)), none⟩, []⟩,
    ⟨5, ⟨(some 22), .op (.mv (.tmp 5)), none⟩, []⟩,
    ⟨6, ⟨(some 23), .op (.iaddrS (.tmp 21) (.tmp 22) 2), none⟩, []⟩,
    ⟨7, ⟨(some 24), .op (.load 2 true (.tmp 23)), none⟩, []⟩,
    ⟨8, ⟨(some 25), .call (.func i_laws_eqOutMove) [(.tmp 20), (.tmp 24)], none⟩, []⟩,
    ⟨9, ⟨(some 26), .op (.un .not (.tmp 25)), none⟩, []⟩]
    [0, 0, 3, 7, 0, 0, 48, 112, 255, 511]) (.kill [17, 18, 19, 20, 21, 22, 23, 24, 25]))
  (.cond (.tmp 26) (.ghost (.kill [0, 1, 5, 26]) (.seq (.reg [⟨(some 4), .op (.mv (.const (Value.bool false))), none⟩])
  .ret))
  (.ghost (.kill [26]) .skip))))
  (.post (.reg [⟨(some 15), .op (.mv (.tmp 5)), none⟩,
    ⟨(some 16), .op (.bin .add (.tmp 15) (.const (Value.int .i64 1))), none⟩,
    ⟨(some 5), .op (.mv (.tmp 16)), none⟩]) (.kill [15, 16]))))
def lo_laws_eqOutMoveS_0 : AC := (.loop lb_laws_eqOutMoveS_0)
def ac_laws_eqOutMoveS : AC := (.seq (.post (.reg [⟨(some 4), .op (.mv (.const (Value.bool false))), none⟩]) (.kill [4]))
  (.seq (.seq (.post (.reg [⟨(some 6), .op (.mv (.tmp 0)), none⟩,
    ⟨(some 7), .op (.len false (.tmp 6)), none⟩,
    ⟨(some 8), .op (.mv (.tmp 1)), none⟩,
    ⟨(some 9), .op (.len false (.tmp 8)), none⟩,
    ⟨(some 10), .op (.bin .neq (.tmp 7) (.tmp 9)), none⟩]) (.kill [6, 7, 8, 9]))
  (.cond (.tmp 10) (.ghost (.kill [0, 1, 10]) (.seq (.reg [⟨(some 4), .op (.mv (.const (Value.bool false))), none⟩])
  .ret))
  (.ghost (.kill [10]) .skip)))
  (.seq (.seq (.reg [⟨(some 5), .op (.mv (.const (Value.int .i64 0))), none⟩])
  (.block 0 lo_laws_eqOutMoveS_0))
  (.ghost (.kill [0, 1, 5]) (.seq (.reg [⟨(some 4), .op (.mv (.const (Value.bool true))), none⟩])
  .ret)))))
theorem cf_laws_eqOutMoveS : chkFn Try.prog i_laws_eqOutMoveS ac_laws_eqOutMoveS [.tmp 4] 27 = true := by decide +kernel
def fa_laws_eqOutMoveS : FnA := ⟨ac_laws_eqOutMoveS, [.tmp 4], 27, false, true, [], .any, none⟩

/-- The checked code of laws eqOutMoveSS. -/
def lb_laws_eqOutMoveSS_0 : AC := (.seq (.seq (.post (.reg [⟨(some 11), .op (.mv (.tmp 5)), none⟩,
    ⟨(some 12), .op (.mv (.tmp 0)), none⟩,
    ⟨(some 13), .op (.len false (.tmp 12)), none⟩,
    ⟨(some 14), .op (.bin .lss (.tmp 11) (.tmp 13)), none⟩]) (.kill [11, 12, 13]))
  (.cond (.tmp 14) (.ghost (.kill [14]) .skip)
  (.ghost (.kill [0, 1, 5, 14]) (.exit 0))))
  (.seq (.block 1 (.seq (.post (.draw [⟨0, ⟨(some 17), .op (.mv (.tmp 0)), none⟩, []⟩,
    ⟨1, ⟨(some 18), .op (.mv (.tmp 5)), none⟩, []⟩,
    ⟨2, ⟨(some 19), .op (.iaddrS (.tmp 17) (.tmp 18) 1), none⟩, []⟩,
    ⟨3, ⟨(some 20), .op (.load 1 false (.tmp 19)), none⟩, []⟩,
    ⟨4, ⟨(some 21), .op (.mv (.tmp 1)), none⟩, []⟩,
    ⟨5, ⟨(some 22), .op (.mv (.tmp 5)), none⟩, []⟩,
    ⟨6, ⟨(some 23), .op (.iaddrS (.tmp 21) (.tmp 22) 1), none⟩, []⟩,
    ⟨7, ⟨(some 24), .op (.load 1 false (.tmp 23)), none⟩, []⟩,
    ⟨8, ⟨(some 25), .call (.func i_laws_eqOutMoveS) [(.tmp 20), (.tmp 24)], none⟩, []⟩,
    ⟨9, ⟨(some 26), .op (.un .not (.tmp 25)), none⟩, []⟩]
    [0, 0, 3, 7, 0, 0, 48, 112, 255, 511]) (.kill [17, 18, 19, 20, 21, 22, 23, 24, 25]))
  (.cond (.tmp 26) (.ghost (.kill [0, 1, 5, 26]) (.seq (.reg [⟨(some 4), .op (.mv (.const (Value.bool false))), none⟩])
  .ret))
  (.ghost (.kill [26]) .skip))))
  (.post (.reg [⟨(some 15), .op (.mv (.tmp 5)), none⟩,
    ⟨(some 16), .op (.bin .add (.tmp 15) (.const (Value.int .i64 1))), none⟩,
    ⟨(some 5), .op (.mv (.tmp 16)), none⟩]) (.kill [15, 16]))))
def lo_laws_eqOutMoveSS_0 : AC := (.loop lb_laws_eqOutMoveSS_0)
def ac_laws_eqOutMoveSS : AC := (.seq (.post (.reg [⟨(some 4), .op (.mv (.const (Value.bool false))), none⟩]) (.kill [4]))
  (.seq (.seq (.post (.reg [⟨(some 6), .op (.mv (.tmp 0)), none⟩,
    ⟨(some 7), .op (.len false (.tmp 6)), none⟩,
    ⟨(some 8), .op (.mv (.tmp 1)), none⟩,
    ⟨(some 9), .op (.len false (.tmp 8)), none⟩,
    ⟨(some 10), .op (.bin .neq (.tmp 7) (.tmp 9)), none⟩]) (.kill [6, 7, 8, 9]))
  (.cond (.tmp 10) (.ghost (.kill [0, 1, 10]) (.seq (.reg [⟨(some 4), .op (.mv (.const (Value.bool false))), none⟩])
  .ret))
  (.ghost (.kill [10]) .skip)))
  (.seq (.seq (.reg [⟨(some 5), .op (.mv (.const (Value.int .i64 0))), none⟩])
  (.block 0 lo_laws_eqOutMoveSS_0))
  (.ghost (.kill [0, 1, 5]) (.seq (.reg [⟨(some 4), .op (.mv (.const (Value.bool true))), none⟩])
  .ret)))))
theorem cf_laws_eqOutMoveSS : chkFn Try.prog i_laws_eqOutMoveSS ac_laws_eqOutMoveSS [.tmp 4] 27 = true := by decide +kernel
def fa_laws_eqOutMoveSS : FnA := ⟨ac_laws_eqOutMoveSS, [.tmp 4], 27, false, true, [], .any, none⟩

/-- The checked code of laws eqOutMoveSSS. -/
def lb_laws_eqOutMoveSSS_0 : AC := (.seq (.seq (.post (.reg [⟨(some 11), .op (.mv (.tmp 5)), none⟩,
    ⟨(some 12), .op (.mv (.tmp 0)), none⟩,
    ⟨(some 13), .op (.len false (.tmp 12)), none⟩,
    ⟨(some 14), .op (.bin .lss (.tmp 11) (.tmp 13)), none⟩]) (.kill [11, 12, 13]))
  (.cond (.tmp 14) (.ghost (.kill [14]) .skip)
  (.ghost (.kill [0, 1, 5, 14]) (.exit 0))))
  (.seq (.block 1 (.seq (.post (.draw [⟨0, ⟨(some 17), .op (.mv (.tmp 0)), none⟩, []⟩,
    ⟨1, ⟨(some 18), .op (.mv (.tmp 5)), none⟩, []⟩,
    ⟨2, ⟨(some 19), .op (.iaddrS (.tmp 17) (.tmp 18) 1), none⟩, []⟩,
    ⟨3, ⟨(some 20), .op (.load 1 false (.tmp 19)), none⟩, []⟩,
    ⟨4, ⟨(some 21), .op (.mv (.tmp 1)), none⟩, []⟩,
    ⟨5, ⟨(some 22), .op (.mv (.tmp 5)), none⟩, []⟩,
    ⟨6, ⟨(some 23), .op (.iaddrS (.tmp 21) (.tmp 22) 1), none⟩, []⟩,
    ⟨7, ⟨(some 24), .op (.load 1 false (.tmp 23)), none⟩, []⟩,
    ⟨8, ⟨(some 25), .call (.func i_laws_eqOutMoveSS) [(.tmp 20), (.tmp 24)], none⟩, []⟩,
    ⟨9, ⟨(some 26), .op (.un .not (.tmp 25)), none⟩, []⟩]
    [0, 0, 3, 7, 0, 0, 48, 112, 255, 511]) (.kill [17, 18, 19, 20, 21, 22, 23, 24, 25]))
  (.cond (.tmp 26) (.ghost (.kill [0, 1, 5, 26]) (.seq (.reg [⟨(some 4), .op (.mv (.const (Value.bool false))), none⟩])
  .ret))
  (.ghost (.kill [26]) .skip))))
  (.post (.reg [⟨(some 15), .op (.mv (.tmp 5)), none⟩,
    ⟨(some 16), .op (.bin .add (.tmp 15) (.const (Value.int .i64 1))), none⟩,
    ⟨(some 5), .op (.mv (.tmp 16)), none⟩]) (.kill [15, 16]))))
def lo_laws_eqOutMoveSSS_0 : AC := (.loop lb_laws_eqOutMoveSSS_0)
def ac_laws_eqOutMoveSSS : AC := (.seq (.post (.reg [⟨(some 4), .op (.mv (.const (Value.bool false))), none⟩]) (.kill [4]))
  (.seq (.seq (.post (.reg [⟨(some 6), .op (.mv (.tmp 0)), none⟩,
    ⟨(some 7), .op (.len false (.tmp 6)), none⟩,
    ⟨(some 8), .op (.mv (.tmp 1)), none⟩,
    ⟨(some 9), .op (.len false (.tmp 8)), none⟩,
    ⟨(some 10), .op (.bin .neq (.tmp 7) (.tmp 9)), none⟩]) (.kill [6, 7, 8, 9]))
  (.cond (.tmp 10) (.ghost (.kill [0, 1, 10]) (.seq (.reg [⟨(some 4), .op (.mv (.const (Value.bool false))), none⟩])
  .ret))
  (.ghost (.kill [10]) .skip)))
  (.seq (.seq (.reg [⟨(some 5), .op (.mv (.const (Value.int .i64 0))), none⟩])
  (.block 0 lo_laws_eqOutMoveSSS_0))
  (.ghost (.kill [0, 1, 5]) (.seq (.reg [⟨(some 4), .op (.mv (.const (Value.bool true))), none⟩])
  .ret)))))
theorem cf_laws_eqOutMoveSSS : chkFn Try.prog i_laws_eqOutMoveSSS ac_laws_eqOutMoveSSS [.tmp 4] 27 = true := by decide +kernel
def fa_laws_eqOutMoveSSS : FnA := ⟨ac_laws_eqOutMoveSSS, [.tmp 4], 27, false, true, [], .any, none⟩

/-- The checked code of laws eqRewriter. -/
def ac_laws_eqRewriter : AC := (.seq (.post (.reg [⟨(some 2), .op (.box true (.tmp 0)), none⟩,
    ⟨(some 3), .op (.box true (.tmp 1)), none⟩,
    ⟨(some 4), .op (.mv (.const (Value.bool false))), none⟩]) (.kill [0, 1, 4]))
  (.seq (.seq (.post (.reg [⟨(some 5), .op (.faddr (.tmp 2) 0), none⟩,
    ⟨(some 6), .op (.load 1 false (.tmp 5)), none⟩,
    ⟨(some 7), .op (.faddr (.tmp 3) 0), none⟩,
    ⟨(some 8), .op (.load 1 false (.tmp 7)), none⟩,
    ⟨(some 9), .op (.bin .neq (.tmp 6) (.tmp 8)), none⟩]) (.kill [5, 6, 7, 8]))
  (.cond (.tmp 9) (.ghost (.kill [2, 3, 9]) (.seq (.reg [⟨(some 4), .op (.mv (.const (Value.bool false))), none⟩])
  .ret))
  (.ghost (.kill [9]) .skip)))
  (.seq (.seq (.post (.reg [⟨(some 10), .op (.faddr (.tmp 2) 1), none⟩,
    ⟨(some 11), .op (.load 1 false (.tmp 10)), none⟩,
    ⟨(some 12), .op (.faddr (.tmp 3) 1), none⟩,
    ⟨(some 13), .op (.load 1 false (.tmp 12)), none⟩,
    ⟨(some 14), .op (.bin .neq (.tmp 11) (.tmp 13)), none⟩]) (.kill [10, 11, 12, 13]))
  (.cond (.tmp 14) (.ghost (.kill [2, 3, 14]) (.seq (.reg [⟨(some 4), .op (.mv (.const (Value.bool false))), none⟩])
  .ret))
  (.ghost (.kill [14]) .skip)))
  (.seq (.seq (.post (.reg [⟨(some 15), .op (.faddr (.tmp 2) 2), none⟩,
    ⟨(some 16), .op (.load 1 false (.tmp 15)), none⟩,
    ⟨(some 17), .op (.faddr (.tmp 3) 2), none⟩,
    ⟨(some 18), .op (.load 1 false (.tmp 17)), none⟩,
    ⟨(some 19), .call (.func i_laws_eqOutPushSS) [(.tmp 16), (.tmp 18)], none⟩,
    ⟨(some 20), .op (.un .not (.tmp 19)), none⟩]) (.kill [15, 16, 17, 18, 19]))
  (.cond (.tmp 20) (.ghost (.kill [2, 3, 20]) (.seq (.reg [⟨(some 4), .op (.mv (.const (Value.bool false))), none⟩])
  .ret))
  (.ghost (.kill [20]) .skip)))
  (.seq (.seq (.post (.reg [⟨(some 21), .op (.faddr (.tmp 2) 3), none⟩,
    ⟨(some 22), .op (.load 1 false (.tmp 21)), none⟩,
    ⟨(some 23), .op (.faddr (.tmp 3) 3), none⟩,
    ⟨(some 24), .op (.load 1 false (.tmp 23)), none⟩,
    ⟨(some 25), .call (.func i_laws_eqOutMoveSSS) [(.tmp 22), (.tmp 24)], none⟩,
    ⟨(some 26), .op (.un .not (.tmp 25)), none⟩]) (.kill [21, 22, 23, 24, 25]))
  (.cond (.tmp 26) (.ghost (.kill [2, 3, 26]) (.seq (.reg [⟨(some 4), .op (.mv (.const (Value.bool false))), none⟩])
  .ret))
  (.ghost (.kill [26]) .skip)))
  (.seq (.seq (.post (.reg [⟨(some 27), .op (.faddr (.tmp 2) 4), none⟩,
    ⟨(some 28), .op (.load 1 false (.tmp 27)), none⟩,
    ⟨(some 29), .op (.faddr (.tmp 3) 4), none⟩,
    ⟨(some 30), .op (.load 1 false (.tmp 29)), none⟩,
    ⟨(some 31), .call (.func i_laws_eqOutMoveSS) [(.tmp 28), (.tmp 30)], none⟩,
    ⟨(some 32), .op (.un .not (.tmp 31)), none⟩]) (.kill [2, 3, 27, 28, 29, 30, 31]))
  (.cond (.tmp 32) (.ghost (.kill [32]) (.seq (.reg [⟨(some 4), .op (.mv (.const (Value.bool false))), none⟩])
  .ret))
  (.ghost (.kill [32]) .skip)))
  (.seq (.reg [⟨(some 4), .op (.mv (.const (Value.bool true))), none⟩])
  .ret)))))))
theorem cf_laws_eqRewriter : chkFn Try.prog i_laws_eqRewriter ac_laws_eqRewriter [.tmp 4] 33 = true := by decide +kernel
def fa_laws_eqRewriter : FnA := ⟨ac_laws_eqRewriter, [.tmp 4], 33, false, true, [(.agg [.any, .any, (.lst 1 (.lst 3 .any)), (.lst 1 (.lst 1 (.lst 2 .any))), (.lst 1 (.lst 2 .any))]), (.agg [.any, .any, (.lst 1 (.lst 3 .any)), (.lst 1 (.lst 1 (.lst 2 .any))), (.lst 1 (.lst 2 .any))])], .any, none⟩

/-- The checked code of laws markText. -/
def lb_laws_markText_0 : AC := (.post (.seq (.seq (.post (.reg [⟨(some 6), .op (.mv (.tmp 0)), none⟩,
    ⟨(some 7), .op (.bin .gtr (.tmp 6) (.const (Value.int .i64 0))), none⟩]) (.kill [6]))
  (.cond (.tmp 7) (.ghost (.kill [7]) .skip)
  (.ghost (.kill [0, 7]) (.exit 0))))
  (.block 1 (.seq (.post (.reg [⟨(some 8), .op (.mv (.tmp 0)), none⟩,
    ⟨(some 9), .op (.bin .rem (.tmp 8) (.const (Value.int .i64 10))), none⟩,
    ⟨(some 10), .op (.bin .add (.const (Value.int .i64 48)) (.tmp 9)), none⟩,
    ⟨(some 11), .op (.conv .u8 (.tmp 10)), none⟩,
    ⟨(some 12), .op (.lits false 1 1 (Value.int .u8 0) [(0, (.tmp 11))]), none⟩,
    ⟨(some 13), .op (.b2s (.tmp 12)), none⟩,
    ⟨(some 14), .op (.mv (.tmp 3)), none⟩,
    ⟨(some 15), .op (.bin .add (.tmp 13) (.tmp 14)), none⟩,
    ⟨(some 3), .op (.mv (.tmp 15)), none⟩]) (.kill [8, 9, 10, 11, 12, 13, 14, 15]))
  (.post (.reg [⟨(some 16), .op (.mv (.tmp 0)), none⟩,
    ⟨(some 17), .op (.bin .quo (.tmp 16) (.const (Value.int .i64 10))), none⟩,
    ⟨(some 0), .op (.mv (.tmp 17)), none⟩]) (.kill [16, 17]))))) .nv)
def lo_laws_markText_0 : AC := (.loop lb_laws_markText_0)
def ac_laws_markText : AC := (.seq (.post (.reg [⟨(some 2), .op (.mv (.const (Value.string ⟨#[]⟩))), none⟩]) (.kill [2]))
  (.seq (.seq (.post (.reg [⟨(some 4), .op (.mv (.tmp 0)), none⟩,
    ⟨(some 5), .op (.bin .leq (.tmp 4) (.const (Value.int .i64 0))), none⟩]) (.kill [4]))
  (.cond (.tmp 5) (.ghost (.kill [0, 5]) (.seq (.reg [⟨(some 2), .op (.mv (.const (Value.string ⟨#[109, 48]⟩))), none⟩])
  .ret))
  (.ghost (.kill [5]) .skip)))
  (.seq (.reg [⟨(some 3), .op (.mv (.const (Value.string ⟨#[]⟩))), none⟩])
  (.seq (.post (.block 0 (.ghost .nv lo_laws_markText_0)) .nv)
  (.ghost (.kill [0]) (.seq (.post (.reg [⟨(some 18), .op (.mv (.tmp 3)), none⟩,
    ⟨(some 19), .op (.bin .add (.const (Value.string ⟨#[109]⟩)) (.tmp 18)), none⟩,
    ⟨(some 2), .op (.mv (.tmp 19)), none⟩]) (.kill [3, 18, 19]))
  .ret))))))
theorem cf_laws_markText : chkFn Try.prog i_laws_markText ac_laws_markText [.tmp 2] 20 = true := by decide +kernel
def fa_laws_markText : FnA := ⟨ac_laws_markText, [.tmp 2], 20, false, true, [], .any, none⟩

/-- The checked code of laws markOutPushS. -/
def lb_laws_markOutPushS_0 : AC := (.seq (.seq (.post (.reg [⟨(some 6), .op (.mv (.tmp 5)), none⟩,
    ⟨(some 7), .op (.mv (.tmp 0)), none⟩,
    ⟨(some 8), .op (.len false (.tmp 7)), none⟩,
    ⟨(some 9), .op (.bin .lss (.tmp 6) (.tmp 8)), none⟩]) (.kill [6, 7, 8]))
  (.cond (.tmp 9) (.ghost (.kill [9]) .skip)
  (.ghost (.kill [0, 5, 9]) (.exit 0))))
  (.seq (.block 1 (.seq (.post (.reg [⟨(some 12), .op (.mv (.tmp 0)), none⟩,
    ⟨(some 13), .op (.mv (.tmp 5)), none⟩,
    ⟨(some 14), .op (.mv (.tmp 1)), none⟩,
    ⟨(some 15), .op (.iaddrS (.tmp 12) (.tmp 13) 3), none⟩,
    ⟨(some 16), .op (.faddr (.tmp 15) 0), none⟩,
    ⟨none, .op (.store 1 (.tmp 16) (.tmp 14)), none⟩]) (.kill [12, 13, 14, 15, 16]))
  (.seq (.post (.reg [⟨(some 17), .op (.mv (.tmp 1)), none⟩,
    ⟨(some 18), .op (.bin .add (.tmp 17) (.const (Value.int .i64 1))), none⟩,
    ⟨(some 1), .op (.mv (.tmp 18)), none⟩]) (.kill [17, 18]))
  (.seq (.post (.reg [⟨(some 19), .op (.mv (.tmp 0)), none⟩,
    ⟨(some 20), .op (.mv (.tmp 5)), none⟩,
    ⟨(some 21), .op (.mv (.tmp 1)), none⟩,
    ⟨(some 22), .op (.iaddrS (.tmp 19) (.tmp 20) 3), none⟩,
    ⟨(some 23), .op (.faddr (.tmp 22) 1), none⟩,
    ⟨none, .op (.store 1 (.tmp 23) (.tmp 21)), none⟩]) (.kill [19, 20, 21, 22, 23]))
  (.seq (.post (.reg [⟨(some 24), .op (.mv (.tmp 1)), none⟩,
    ⟨(some 25), .op (.bin .add (.tmp 24) (.const (Value.int .i64 1))), none⟩,
    ⟨(some 1), .op (.mv (.tmp 25)), none⟩]) (.kill [24, 25]))
  (.seq (.post (.reg [⟨(some 26), .op (.mv (.tmp 0)), none⟩,
    ⟨(some 27), .op (.mv (.tmp 5)), none⟩,
    ⟨(some 28), .op (.mv (.tmp 1)), none⟩,
    ⟨(some 29), .call (.func i_laws_markText) [(.tmp 28)], none⟩,
    ⟨(some 30), .op (.iaddrS (.tmp 26) (.tmp 27) 3), none⟩,
    ⟨(some 31), .op (.faddr (.tmp 30) 2), none⟩,
    ⟨none, .op (.store 1 (.tmp 31) (.tmp 29)), none⟩]) (.kill [26, 27, 28, 29, 30, 31]))
  (.post (.reg [⟨(some 32), .op (.mv (.tmp 1)), none⟩,
    ⟨(some 33), .op (.bin .add (.tmp 32) (.const (Value.int .i64 1))), none⟩,
    ⟨(some 1), .op (.mv (.tmp 33)), none⟩]) (.kill [32, 33]))))))))
  (.post (.reg [⟨(some 10), .op (.mv (.tmp 5)), none⟩,
    ⟨(some 11), .op (.bin .add (.tmp 10) (.const (Value.int .i64 1))), none⟩,
    ⟨(some 5), .op (.mv (.tmp 11)), none⟩]) (.kill [10, 11]))))
def lo_laws_markOutPushS_0 : AC := (.loop lb_laws_markOutPushS_0)
def ac_laws_markOutPushS : AC := (.seq (.post (.reg [⟨(some 4), .op (.mv (.const (Value.int .i64 0))), none⟩]) (.kill [4]))
  (.seq (.seq (.reg [⟨(some 5), .op (.mv (.const (Value.int .i64 0))), none⟩])
  (.block 0 lo_laws_markOutPushS_0))
  (.ghost (.kill [0, 5]) (.seq (.post (.reg [⟨(some 34), .op (.mv (.tmp 1)), none⟩,
    ⟨(some 4), .op (.mv (.tmp 34)), none⟩]) (.kill [1, 34]))
  .ret))))
theorem cf_laws_markOutPushS : chkFn Try.prog i_laws_markOutPushS ac_laws_markOutPushS [.tmp 4] 35 = true := by decide +kernel
def fa_laws_markOutPushS : FnA := ⟨ac_laws_markOutPushS, [.tmp 4], 35, true, false, [], .any, none⟩

/-- The checked code of laws markOutPushSS. -/
def lb_laws_markOutPushSS_0 : AC := (.seq (.seq (.post (.reg [⟨(some 6), .op (.mv (.tmp 5)), none⟩,
    ⟨(some 7), .op (.mv (.tmp 0)), none⟩,
    ⟨(some 8), .op (.len false (.tmp 7)), none⟩,
    ⟨(some 9), .op (.bin .lss (.tmp 6) (.tmp 8)), none⟩]) (.kill [6, 7, 8]))
  (.cond (.tmp 9) (.ghost (.kill [9]) .skip)
  (.ghost (.kill [0, 5, 9]) (.exit 0))))
  (.seq (.block 1 (.post (.reg [⟨(some 12), .op (.mv (.tmp 0)), none⟩,
    ⟨(some 13), .op (.mv (.tmp 5)), none⟩,
    ⟨(some 14), .op (.iaddrS (.tmp 12) (.tmp 13) 1), none⟩,
    ⟨(some 15), .op (.load 1 false (.tmp 14)), none⟩,
    ⟨(some 16), .op (.mv (.tmp 1)), none⟩,
    ⟨(some 17), .call (.func i_laws_markOutPushS) [(.tmp 15), (.tmp 16)], none⟩,
    ⟨(some 1), .op (.mv (.tmp 17)), none⟩]) (.kill [12, 13, 14, 15, 16, 17])))
  (.post (.reg [⟨(some 10), .op (.mv (.tmp 5)), none⟩,
    ⟨(some 11), .op (.bin .add (.tmp 10) (.const (Value.int .i64 1))), none⟩,
    ⟨(some 5), .op (.mv (.tmp 11)), none⟩]) (.kill [10, 11]))))
def lo_laws_markOutPushSS_0 : AC := (.loop lb_laws_markOutPushSS_0)
def ac_laws_markOutPushSS : AC := (.seq (.post (.reg [⟨(some 4), .op (.mv (.const (Value.int .i64 0))), none⟩]) (.kill [4]))
  (.seq (.seq (.reg [⟨(some 5), .op (.mv (.const (Value.int .i64 0))), none⟩])
  (.block 0 lo_laws_markOutPushSS_0))
  (.ghost (.kill [0, 5]) (.seq (.post (.reg [⟨(some 18), .op (.mv (.tmp 1)), none⟩,
    ⟨(some 4), .op (.mv (.tmp 18)), none⟩]) (.kill [1, 18]))
  .ret))))
theorem cf_laws_markOutPushSS : chkFn Try.prog i_laws_markOutPushSS ac_laws_markOutPushSS [.tmp 4] 19 = true := by decide +kernel
def fa_laws_markOutPushSS : FnA := ⟨ac_laws_markOutPushSS, [.tmp 4], 19, true, false, [], .any, none⟩

/-- The checked code of laws markOutMoveS. -/
def lb_laws_markOutMoveS_0 : AC := (.seq (.seq (.post (.reg [⟨(some 6), .op (.mv (.tmp 5)), none⟩,
    ⟨(some 7), .op (.mv (.tmp 0)), none⟩,
    ⟨(some 8), .op (.len false (.tmp 7)), none⟩,
    ⟨(some 9), .op (.bin .lss (.tmp 6) (.tmp 8)), none⟩]) (.kill [6, 7, 8]))
  (.cond (.tmp 9) (.ghost (.kill [9]) .skip)
  (.ghost (.kill [0, 5, 9]) (.exit 0))))
  (.seq (.block 1 (.seq (.post (.reg [⟨(some 12), .op (.mv (.tmp 0)), none⟩,
    ⟨(some 13), .op (.mv (.tmp 5)), none⟩,
    ⟨(some 14), .op (.mv (.tmp 1)), none⟩,
    ⟨(some 15), .op (.iaddrS (.tmp 12) (.tmp 13) 2), none⟩,
    ⟨(some 16), .op (.faddr (.tmp 15) 0), none⟩,
    ⟨none, .op (.store 1 (.tmp 16) (.tmp 14)), none⟩]) (.kill [12, 13, 14, 15, 16]))
  (.seq (.post (.reg [⟨(some 17), .op (.mv (.tmp 1)), none⟩,
    ⟨(some 18), .op (.bin .add (.tmp 17) (.const (Value.int .i64 1))), none⟩,
    ⟨(some 1), .op (.mv (.tmp 18)), none⟩]) (.kill [17, 18]))
  (.seq (.post (.reg [⟨(some 19), .op (.mv (.tmp 0)), none⟩,
    ⟨(some 20), .op (.mv (.tmp 5)), none⟩,
    ⟨(some 21), .op (.mv (.tmp 1)), none⟩,
    ⟨(some 22), .call (.func i_laws_markText) [(.tmp 21)], none⟩,
    ⟨(some 23), .op (.iaddrS (.tmp 19) (.tmp 20) 2), none⟩,
    ⟨(some 24), .op (.faddr (.tmp 23) 1), none⟩,
    ⟨none, .op (.store 1 (.tmp 24) (.tmp 22)), none⟩]) (.kill [19, 20, 21, 22, 23, 24]))
  (.post (.reg [⟨(some 25), .op (.mv (.tmp 1)), none⟩,
    ⟨(some 26), .op (.bin .add (.tmp 25) (.const (Value.int .i64 1))), none⟩,
    ⟨(some 1), .op (.mv (.tmp 26)), none⟩]) (.kill [25, 26]))))))
  (.post (.reg [⟨(some 10), .op (.mv (.tmp 5)), none⟩,
    ⟨(some 11), .op (.bin .add (.tmp 10) (.const (Value.int .i64 1))), none⟩,
    ⟨(some 5), .op (.mv (.tmp 11)), none⟩]) (.kill [10, 11]))))
def lo_laws_markOutMoveS_0 : AC := (.loop lb_laws_markOutMoveS_0)
def ac_laws_markOutMoveS : AC := (.seq (.post (.reg [⟨(some 4), .op (.mv (.const (Value.int .i64 0))), none⟩]) (.kill [4]))
  (.seq (.seq (.reg [⟨(some 5), .op (.mv (.const (Value.int .i64 0))), none⟩])
  (.block 0 lo_laws_markOutMoveS_0))
  (.ghost (.kill [0, 5]) (.seq (.post (.reg [⟨(some 27), .op (.mv (.tmp 1)), none⟩,
    ⟨(some 4), .op (.mv (.tmp 27)), none⟩]) (.kill [1, 27]))
  .ret))))
theorem cf_laws_markOutMoveS : chkFn Try.prog i_laws_markOutMoveS ac_laws_markOutMoveS [.tmp 4] 28 = true := by decide +kernel
def fa_laws_markOutMoveS : FnA := ⟨ac_laws_markOutMoveS, [.tmp 4], 28, true, false, [], .any, none⟩

/-- The checked code of laws markOutMoveSS. -/
def lb_laws_markOutMoveSS_0 : AC := (.seq (.seq (.post (.reg [⟨(some 6), .op (.mv (.tmp 5)), none⟩,
    ⟨(some 7), .op (.mv (.tmp 0)), none⟩,
    ⟨(some 8), .op (.len false (.tmp 7)), none⟩,
    ⟨(some 9), .op (.bin .lss (.tmp 6) (.tmp 8)), none⟩]) (.kill [6, 7, 8]))
  (.cond (.tmp 9) (.ghost (.kill [9]) .skip)
  (.ghost (.kill [0, 5, 9]) (.exit 0))))
  (.seq (.block 1 (.post (.reg [⟨(some 12), .op (.mv (.tmp 0)), none⟩,
    ⟨(some 13), .op (.mv (.tmp 5)), none⟩,
    ⟨(some 14), .op (.iaddrS (.tmp 12) (.tmp 13) 1), none⟩,
    ⟨(some 15), .op (.load 1 false (.tmp 14)), none⟩,
    ⟨(some 16), .op (.mv (.tmp 1)), none⟩,
    ⟨(some 17), .call (.func i_laws_markOutMoveS) [(.tmp 15), (.tmp 16)], none⟩,
    ⟨(some 1), .op (.mv (.tmp 17)), none⟩]) (.kill [12, 13, 14, 15, 16, 17])))
  (.post (.reg [⟨(some 10), .op (.mv (.tmp 5)), none⟩,
    ⟨(some 11), .op (.bin .add (.tmp 10) (.const (Value.int .i64 1))), none⟩,
    ⟨(some 5), .op (.mv (.tmp 11)), none⟩]) (.kill [10, 11]))))
def lo_laws_markOutMoveSS_0 : AC := (.loop lb_laws_markOutMoveSS_0)
def ac_laws_markOutMoveSS : AC := (.seq (.post (.reg [⟨(some 4), .op (.mv (.const (Value.int .i64 0))), none⟩]) (.kill [4]))
  (.seq (.seq (.reg [⟨(some 5), .op (.mv (.const (Value.int .i64 0))), none⟩])
  (.block 0 lo_laws_markOutMoveSS_0))
  (.ghost (.kill [0, 5]) (.seq (.post (.reg [⟨(some 18), .op (.mv (.tmp 1)), none⟩,
    ⟨(some 4), .op (.mv (.tmp 18)), none⟩]) (.kill [1, 18]))
  .ret))))
theorem cf_laws_markOutMoveSS : chkFn Try.prog i_laws_markOutMoveSS ac_laws_markOutMoveSS [.tmp 4] 19 = true := by decide +kernel
def fa_laws_markOutMoveSS : FnA := ⟨ac_laws_markOutMoveSS, [.tmp 4], 19, true, false, [], .any, none⟩

/-- The checked code of laws markOutMoveSSS. -/
def lb_laws_markOutMoveSSS_0 : AC := (.seq (.seq (.post (.reg [⟨(some 6), .op (.mv (.tmp 5)), none⟩,
    ⟨(some 7), .op (.mv (.tmp 0)), none⟩,
    ⟨(some 8), .op (.len false (.tmp 7)), none⟩,
    ⟨(some 9), .op (.bin .lss (.tmp 6) (.tmp 8)), none⟩]) (.kill [6, 7, 8]))
  (.cond (.tmp 9) (.ghost (.kill [9]) .skip)
  (.ghost (.kill [0, 5, 9]) (.exit 0))))
  (.seq (.block 1 (.post (.reg [⟨(some 12), .op (.mv (.tmp 0)), none⟩,
    ⟨(some 13), .op (.mv (.tmp 5)), none⟩,
    ⟨(some 14), .op (.iaddrS (.tmp 12) (.tmp 13) 1), none⟩,
    ⟨(some 15), .op (.load 1 false (.tmp 14)), none⟩,
    ⟨(some 16), .op (.mv (.tmp 1)), none⟩,
    ⟨(some 17), .call (.func i_laws_markOutMoveSS) [(.tmp 15), (.tmp 16)], none⟩,
    ⟨(some 1), .op (.mv (.tmp 17)), none⟩]) (.kill [12, 13, 14, 15, 16, 17])))
  (.post (.reg [⟨(some 10), .op (.mv (.tmp 5)), none⟩,
    ⟨(some 11), .op (.bin .add (.tmp 10) (.const (Value.int .i64 1))), none⟩,
    ⟨(some 5), .op (.mv (.tmp 11)), none⟩]) (.kill [10, 11]))))
def lo_laws_markOutMoveSSS_0 : AC := (.loop lb_laws_markOutMoveSSS_0)
def ac_laws_markOutMoveSSS : AC := (.seq (.post (.reg [⟨(some 4), .op (.mv (.const (Value.int .i64 0))), none⟩]) (.kill [4]))
  (.seq (.seq (.reg [⟨(some 5), .op (.mv (.const (Value.int .i64 0))), none⟩])
  (.block 0 lo_laws_markOutMoveSSS_0))
  (.ghost (.kill [0, 5]) (.seq (.post (.reg [⟨(some 18), .op (.mv (.tmp 1)), none⟩,
    ⟨(some 4), .op (.mv (.tmp 18)), none⟩]) (.kill [1, 18]))
  .ret))))
theorem cf_laws_markOutMoveSSS : chkFn Try.prog i_laws_markOutMoveSSS ac_laws_markOutMoveSSS [.tmp 4] 19 = true := by decide +kernel
def fa_laws_markOutMoveSSS : FnA := ⟨ac_laws_markOutMoveSSS, [.tmp 4], 19, true, false, [], .any, none⟩

/-- The checked code of laws markRewriter. -/
def ac_laws_markRewriter : AC := (.seq (.post (.reg [⟨(some 2), .op (.box false (.tmp 0)), none⟩,
    ⟨(some 4), .op (.mv (.const (Value.int .i64 0))), none⟩]) (.kill [0, 4]))
  (.seq (.post (.reg [⟨(some 5), .op (.faddr (.tmp 2) 2), none⟩,
    ⟨(some 6), .op (.load 1 false (.tmp 5)), none⟩,
    ⟨(some 7), .op (.mv (.tmp 1)), none⟩,
    ⟨(some 8), .call (.func i_laws_markOutPushSS) [(.tmp 6), (.tmp 7)], none⟩,
    ⟨(some 1), .op (.mv (.tmp 8)), none⟩]) (.kill [5, 6, 7, 8]))
  (.seq (.post (.reg [⟨(some 9), .op (.faddr (.tmp 2) 3), none⟩,
    ⟨(some 10), .op (.load 1 false (.tmp 9)), none⟩,
    ⟨(some 11), .op (.mv (.tmp 1)), none⟩,
    ⟨(some 12), .call (.func i_laws_markOutMoveSSS) [(.tmp 10), (.tmp 11)], none⟩,
    ⟨(some 1), .op (.mv (.tmp 12)), none⟩]) (.kill [9, 10, 11, 12]))
  (.seq (.post (.reg [⟨(some 13), .op (.faddr (.tmp 2) 4), none⟩,
    ⟨(some 14), .op (.load 1 false (.tmp 13)), none⟩,
    ⟨(some 15), .op (.mv (.tmp 1)), none⟩,
    ⟨(some 16), .call (.func i_laws_markOutMoveSS) [(.tmp 14), (.tmp 15)], none⟩,
    ⟨(some 1), .op (.mv (.tmp 16)), none⟩]) (.kill [2, 13, 14, 15, 16]))
  (.seq (.post (.reg [⟨(some 17), .op (.mv (.tmp 1)), none⟩,
    ⟨(some 4), .op (.mv (.tmp 17)), none⟩]) (.kill [1, 17]))
  .ret)))))
theorem cf_laws_markRewriter : chkFn Try.prog i_laws_markRewriter ac_laws_markRewriter [.tmp 4] 18 = true := by decide +kernel
def fa_laws_markRewriter : FnA := ⟨ac_laws_markRewriter, [.tmp 4], 18, true, false, [], .any, none⟩

/-- The checked code of laws heldOutPushS. -/
def lb_laws_heldOutPushS_0 : AC := (.seq (.seq (.post (.reg [⟨(some 6), .op (.mv (.tmp 5)), none⟩,
    ⟨(some 7), .op (.mv (.tmp 0)), none⟩,
    ⟨(some 8), .op (.len false (.tmp 7)), none⟩,
    ⟨(some 9), .op (.bin .lss (.tmp 6) (.tmp 8)), none⟩]) (.kill [6, 7, 8]))
  (.cond (.tmp 9) (.ghost (.kill [9]) .skip)
  (.ghost (.kill [0, 5, 9]) (.exit 0))))
  (.seq (.block 1 (.seq (.seq (.post (.reg [⟨(some 12), .op (.mv (.tmp 0)), none⟩,
    ⟨(some 13), .op (.mv (.tmp 5)), none⟩,
    ⟨(some 14), .op (.iaddrS (.tmp 12) (.tmp 13) 3), none⟩,
    ⟨(some 15), .op (.faddr (.tmp 14) 0), none⟩,
    ⟨(some 16), .op (.load 1 false (.tmp 15)), none⟩,
    ⟨(some 17), .op (.mv (.tmp 1)), none⟩,
    ⟨(some 18), .op (.bin .neq (.tmp 16) (.tmp 17)), none⟩]) (.kill [12, 13, 14, 15, 16, 17]))
  (.cond (.tmp 18) (.ghost (.kill [0, 1, 5, 18]) (.seq (.reg [⟨(some 4), .op (.mv (.const (Value.int .i64 (-1)))), none⟩])
  .ret))
  (.ghost (.kill [18]) .skip)))
  (.seq (.post (.reg [⟨(some 19), .op (.mv (.tmp 1)), none⟩,
    ⟨(some 20), .op (.bin .add (.tmp 19) (.const (Value.int .i64 1))), none⟩,
    ⟨(some 1), .op (.mv (.tmp 20)), none⟩]) (.kill [19, 20]))
  (.seq (.seq (.post (.reg [⟨(some 21), .op (.mv (.tmp 0)), none⟩,
    ⟨(some 22), .op (.mv (.tmp 5)), none⟩,
    ⟨(some 23), .op (.iaddrS (.tmp 21) (.tmp 22) 3), none⟩,
    ⟨(some 24), .op (.faddr (.tmp 23) 1), none⟩,
    ⟨(some 25), .op (.load 1 false (.tmp 24)), none⟩,
    ⟨(some 26), .op (.mv (.tmp 1)), none⟩,
    ⟨(some 27), .op (.bin .neq (.tmp 25) (.tmp 26)), none⟩]) (.kill [21, 22, 23, 24, 25, 26]))
  (.cond (.tmp 27) (.ghost (.kill [0, 1, 5, 27]) (.seq (.reg [⟨(some 4), .op (.mv (.const (Value.int .i64 (-1)))), none⟩])
  .ret))
  (.ghost (.kill [27]) .skip)))
  (.seq (.post (.reg [⟨(some 28), .op (.mv (.tmp 1)), none⟩,
    ⟨(some 29), .op (.bin .add (.tmp 28) (.const (Value.int .i64 1))), none⟩,
    ⟨(some 1), .op (.mv (.tmp 29)), none⟩]) (.kill [28, 29]))
  (.seq (.seq (.post (.draw [⟨0, ⟨(some 30), .op (.mv (.tmp 0)), none⟩, []⟩,
    ⟨1, ⟨(some 31), .op (.mv (.tmp 5)), none⟩, []⟩,
    ⟨2, ⟨(some 32), .op (.iaddrS (.tmp 30) (.tmp 31) 3), none⟩, []⟩,
    ⟨3, ⟨(some 33), .op (.faddr (.tmp 32) 2), none⟩, []⟩,
    ⟨4, ⟨(some 34), .op (.load 1 false (.tmp 33)), none⟩, []⟩,
    ⟨5, ⟨(some 35), .op (.mv (.tmp 1)), none⟩, []⟩,
    ⟨6, ⟨(some 36), .call (.func i_laws_markText) [(.tmp 35)], none⟩, [2, 4]⟩,
    ⟨7, ⟨(some 37), .op (.bin .neq (.tmp 34) (.tmp 36)), none⟩, []⟩]
    [0, 0, 3, 7, 15, 0, 32, 127]) (.kill [30, 31, 32, 33, 34, 35, 36]))
  (.cond (.tmp 37) (.ghost (.kill [0, 1, 5, 37]) (.seq (.reg [⟨(some 4), .op (.mv (.const (Value.int .i64 (-1)))), none⟩])
  .ret))
  (.ghost (.kill [37]) .skip)))
  (.post (.reg [⟨(some 38), .op (.mv (.tmp 1)), none⟩,
    ⟨(some 39), .op (.bin .add (.tmp 38) (.const (Value.int .i64 1))), none⟩,
    ⟨(some 1), .op (.mv (.tmp 39)), none⟩]) (.kill [38, 39]))))))))
  (.post (.reg [⟨(some 10), .op (.mv (.tmp 5)), none⟩,
    ⟨(some 11), .op (.bin .add (.tmp 10) (.const (Value.int .i64 1))), none⟩,
    ⟨(some 5), .op (.mv (.tmp 11)), none⟩]) (.kill [10, 11]))))
def lo_laws_heldOutPushS_0 : AC := (.loop lb_laws_heldOutPushS_0)
def ac_laws_heldOutPushS : AC := (.seq (.post (.reg [⟨(some 4), .op (.mv (.const (Value.int .i64 0))), none⟩]) (.kill [4]))
  (.seq (.seq (.reg [⟨(some 5), .op (.mv (.const (Value.int .i64 0))), none⟩])
  (.block 0 lo_laws_heldOutPushS_0))
  (.ghost (.kill [0, 5]) (.seq (.post (.reg [⟨(some 40), .op (.mv (.tmp 1)), none⟩,
    ⟨(some 4), .op (.mv (.tmp 40)), none⟩]) (.kill [1, 40]))
  .ret))))
theorem cf_laws_heldOutPushS : chkFn Try.prog i_laws_heldOutPushS ac_laws_heldOutPushS [.tmp 4] 41 = true := by decide +kernel
def fa_laws_heldOutPushS : FnA := ⟨ac_laws_heldOutPushS, [.tmp 4], 41, false, true, [], .any, none⟩

/-- The checked code of laws heldOutPushSS. -/
def lb_laws_heldOutPushSS_0 : AC := (.seq (.seq (.post (.reg [⟨(some 6), .op (.mv (.tmp 5)), none⟩,
    ⟨(some 7), .op (.mv (.tmp 0)), none⟩,
    ⟨(some 8), .op (.len false (.tmp 7)), none⟩,
    ⟨(some 9), .op (.bin .lss (.tmp 6) (.tmp 8)), none⟩]) (.kill [6, 7, 8]))
  (.cond (.tmp 9) (.ghost (.kill [9]) .skip)
  (.ghost (.kill [0, 5, 9]) (.exit 0))))
  (.seq (.block 1 (.seq (.post (.reg [⟨(some 12), .op (.mv (.tmp 0)), none⟩,
    ⟨(some 13), .op (.mv (.tmp 5)), none⟩,
    ⟨(some 14), .op (.iaddrS (.tmp 12) (.tmp 13) 1), none⟩,
    ⟨(some 15), .op (.load 1 false (.tmp 14)), none⟩,
    ⟨(some 16), .op (.mv (.tmp 1)), none⟩,
    ⟨(some 17), .call (.func i_laws_heldOutPushS) [(.tmp 15), (.tmp 16)], none⟩,
    ⟨(some 1), .op (.mv (.tmp 17)), none⟩]) (.kill [12, 13, 14, 15, 16, 17]))
  (.seq (.post (.reg [⟨(some 18), .op (.mv (.tmp 1)), none⟩,
    ⟨(some 19), .op (.bin .lss (.tmp 18) (.const (Value.int .i64 0))), none⟩]) (.kill [18]))
  (.cond (.tmp 19) (.ghost (.kill [0, 1, 5, 19]) (.seq (.reg [⟨(some 4), .op (.mv (.const (Value.int .i64 (-1)))), none⟩])
  .ret))
  (.ghost (.kill [19]) .skip)))))
  (.post (.reg [⟨(some 10), .op (.mv (.tmp 5)), none⟩,
    ⟨(some 11), .op (.bin .add (.tmp 10) (.const (Value.int .i64 1))), none⟩,
    ⟨(some 5), .op (.mv (.tmp 11)), none⟩]) (.kill [10, 11]))))
def lo_laws_heldOutPushSS_0 : AC := (.loop lb_laws_heldOutPushSS_0)
def ac_laws_heldOutPushSS : AC := (.seq (.post (.reg [⟨(some 4), .op (.mv (.const (Value.int .i64 0))), none⟩]) (.kill [4]))
  (.seq (.seq (.reg [⟨(some 5), .op (.mv (.const (Value.int .i64 0))), none⟩])
  (.block 0 lo_laws_heldOutPushSS_0))
  (.ghost (.kill [0, 5]) (.seq (.post (.reg [⟨(some 20), .op (.mv (.tmp 1)), none⟩,
    ⟨(some 4), .op (.mv (.tmp 20)), none⟩]) (.kill [1, 20]))
  .ret))))
theorem cf_laws_heldOutPushSS : chkFn Try.prog i_laws_heldOutPushSS ac_laws_heldOutPushSS [.tmp 4] 21 = true := by decide +kernel
def fa_laws_heldOutPushSS : FnA := ⟨ac_laws_heldOutPushSS, [.tmp 4], 21, false, true, [], .any, none⟩

/-- The checked code of laws heldOutMoveS. -/
def lb_laws_heldOutMoveS_0 : AC := (.seq (.seq (.post (.reg [⟨(some 6), .op (.mv (.tmp 5)), none⟩,
    ⟨(some 7), .op (.mv (.tmp 0)), none⟩,
    ⟨(some 8), .op (.len false (.tmp 7)), none⟩,
    ⟨(some 9), .op (.bin .lss (.tmp 6) (.tmp 8)), none⟩]) (.kill [6, 7, 8]))
  (.cond (.tmp 9) (.ghost (.kill [9]) .skip)
  (.ghost (.kill [0, 5, 9]) (.exit 0))))
  (.seq (.block 1 (.seq (.seq (.post (.reg [⟨(some 12), .op (.mv (.tmp 0)), none⟩,
    ⟨(some 13), .op (.mv (.tmp 5)), none⟩,
    ⟨(some 14), .op (.iaddrS (.tmp 12) (.tmp 13) 2), none⟩,
    ⟨(some 15), .op (.faddr (.tmp 14) 0), none⟩,
    ⟨(some 16), .op (.load 1 false (.tmp 15)), none⟩,
    ⟨(some 17), .op (.mv (.tmp 1)), none⟩,
    ⟨(some 18), .op (.bin .neq (.tmp 16) (.tmp 17)), none⟩]) (.kill [12, 13, 14, 15, 16, 17]))
  (.cond (.tmp 18) (.ghost (.kill [0, 1, 5, 18]) (.seq (.reg [⟨(some 4), .op (.mv (.const (Value.int .i64 (-1)))), none⟩])
  .ret))
  (.ghost (.kill [18]) .skip)))
  (.seq (.post (.reg [⟨(some 19), .op (.mv (.tmp 1)), none⟩,
    ⟨(some 20), .op (.bin .add (.tmp 19) (.const (Value.int .i64 1))), none⟩,
    ⟨(some 1), .op (.mv (.tmp 20)), none⟩]) (.kill [19, 20]))
  (.seq (.seq (.post (.draw [⟨0, ⟨(some 21), .op (.mv (.tmp 0)), none⟩, []⟩,
    ⟨1, ⟨(some 22), .op (.mv (.tmp 5)), none⟩, []⟩,
    ⟨2, ⟨(some 23), .op (.iaddrS (.tmp 21) (.tmp 22) 2), none⟩, []⟩,
    ⟨3, ⟨(some 24), .op (.faddr (.tmp 23) 1), none⟩, []⟩,
    ⟨4, ⟨(some 25), .op (.load 1 false (.tmp 24)), none⟩, []⟩,
    ⟨5, ⟨(some 26), .op (.mv (.tmp 1)), none⟩, []⟩,
    ⟨6, ⟨(some 27), .call (.func i_laws_markText) [(.tmp 26)], none⟩, [2, 4]⟩,
    ⟨7, ⟨(some 28), .op (.bin .neq (.tmp 25) (.tmp 27)), none⟩, []⟩]
    [0, 0, 3, 7, 15, 0, 32, 127]) (.kill [21, 22, 23, 24, 25, 26, 27]))
  (.cond (.tmp 28) (.ghost (.kill [0, 1, 5, 28]) (.seq (.reg [⟨(some 4), .op (.mv (.const (Value.int .i64 (-1)))), none⟩])
  .ret))
  (.ghost (.kill [28]) .skip)))
  (.post (.reg [⟨(some 29), .op (.mv (.tmp 1)), none⟩,
    ⟨(some 30), .op (.bin .add (.tmp 29) (.const (Value.int .i64 1))), none⟩,
    ⟨(some 1), .op (.mv (.tmp 30)), none⟩]) (.kill [29, 30]))))))
  (.post (.reg [⟨(some 10), .op (.mv (.tmp 5)), none⟩,
    ⟨(some 11), .op (.bin .add (.tmp 10) (.const (Value.int .i64 1))), none⟩,
    ⟨(some 5), .op (.mv (.tmp 11)), none⟩]) (.kill [10, 11]))))
def lo_laws_heldOutMoveS_0 : AC := (.loop lb_laws_heldOutMoveS_0)
def ac_laws_heldOutMoveS : AC := (.seq (.post (.reg [⟨(some 4), .op (.mv (.const (Value.int .i64 0))), none⟩]) (.kill [4]))
  (.seq (.seq (.reg [⟨(some 5), .op (.mv (.const (Value.int .i64 0))), none⟩])
  (.block 0 lo_laws_heldOutMoveS_0))
  (.ghost (.kill [0, 5]) (.seq (.post (.reg [⟨(some 31), .op (.mv (.tmp 1)), none⟩,
    ⟨(some 4), .op (.mv (.tmp 31)), none⟩]) (.kill [1, 31]))
  .ret))))
theorem cf_laws_heldOutMoveS : chkFn Try.prog i_laws_heldOutMoveS ac_laws_heldOutMoveS [.tmp 4] 32 = true := by decide +kernel
def fa_laws_heldOutMoveS : FnA := ⟨ac_laws_heldOutMoveS, [.tmp 4], 32, false, true, [], .any, none⟩

/-- The checked code of laws heldOutMoveSS. -/
def lb_laws_heldOutMoveSS_0 : AC := (.seq (.seq (.post (.reg [⟨(some 6), .op (.mv (.tmp 5)), none⟩,
    ⟨(some 7), .op (.mv (.tmp 0)), none⟩,
    ⟨(some 8), .op (.len false (.tmp 7)), none⟩,
    ⟨(some 9), .op (.bin .lss (.tmp 6) (.tmp 8)), none⟩]) (.kill [6, 7, 8]))
  (.cond (.tmp 9) (.ghost (.kill [9]) .skip)
  (.ghost (.kill [0, 5, 9]) (.exit 0))))
  (.seq (.block 1 (.seq (.post (.reg [⟨(some 12), .op (.mv (.tmp 0)), none⟩,
    ⟨(some 13), .op (.mv (.tmp 5)), none⟩,
    ⟨(some 14), .op (.iaddrS (.tmp 12) (.tmp 13) 1), none⟩,
    ⟨(some 15), .op (.load 1 false (.tmp 14)), none⟩,
    ⟨(some 16), .op (.mv (.tmp 1)), none⟩,
    ⟨(some 17), .call (.func i_laws_heldOutMoveS) [(.tmp 15), (.tmp 16)], none⟩,
    ⟨(some 1), .op (.mv (.tmp 17)), none⟩]) (.kill [12, 13, 14, 15, 16, 17]))
  (.seq (.post (.reg [⟨(some 18), .op (.mv (.tmp 1)), none⟩,
    ⟨(some 19), .op (.bin .lss (.tmp 18) (.const (Value.int .i64 0))), none⟩]) (.kill [18]))
  (.cond (.tmp 19) (.ghost (.kill [0, 1, 5, 19]) (.seq (.reg [⟨(some 4), .op (.mv (.const (Value.int .i64 (-1)))), none⟩])
  .ret))
  (.ghost (.kill [19]) .skip)))))
  (.post (.reg [⟨(some 10), .op (.mv (.tmp 5)), none⟩,
    ⟨(some 11), .op (.bin .add (.tmp 10) (.const (Value.int .i64 1))), none⟩,
    ⟨(some 5), .op (.mv (.tmp 11)), none⟩]) (.kill [10, 11]))))
def lo_laws_heldOutMoveSS_0 : AC := (.loop lb_laws_heldOutMoveSS_0)
def ac_laws_heldOutMoveSS : AC := (.seq (.post (.reg [⟨(some 4), .op (.mv (.const (Value.int .i64 0))), none⟩]) (.kill [4]))
  (.seq (.seq (.reg [⟨(some 5), .op (.mv (.const (Value.int .i64 0))), none⟩])
  (.block 0 lo_laws_heldOutMoveSS_0))
  (.ghost (.kill [0, 5]) (.seq (.post (.reg [⟨(some 20), .op (.mv (.tmp 1)), none⟩,
    ⟨(some 4), .op (.mv (.tmp 20)), none⟩]) (.kill [1, 20]))
  .ret))))
theorem cf_laws_heldOutMoveSS : chkFn Try.prog i_laws_heldOutMoveSS ac_laws_heldOutMoveSS [.tmp 4] 21 = true := by decide +kernel
def fa_laws_heldOutMoveSS : FnA := ⟨ac_laws_heldOutMoveSS, [.tmp 4], 21, false, true, [], .any, none⟩

/-- The checked code of laws heldOutMoveSSS. -/
def lb_laws_heldOutMoveSSS_0 : AC := (.seq (.seq (.post (.reg [⟨(some 6), .op (.mv (.tmp 5)), none⟩,
    ⟨(some 7), .op (.mv (.tmp 0)), none⟩,
    ⟨(some 8), .op (.len false (.tmp 7)), none⟩,
    ⟨(some 9), .op (.bin .lss (.tmp 6) (.tmp 8)), none⟩]) (.kill [6, 7, 8]))
  (.cond (.tmp 9) (.ghost (.kill [9]) .skip)
  (.ghost (.kill [0, 5, 9]) (.exit 0))))
  (.seq (.block 1 (.seq (.post (.reg [⟨(some 12), .op (.mv (.tmp 0)), none⟩,
    ⟨(some 13), .op (.mv (.tmp 5)), none⟩,
    ⟨(some 14), .op (.iaddrS (.tmp 12) (.tmp 13) 1), none⟩,
    ⟨(some 15), .op (.load 1 false (.tmp 14)), none⟩,
    ⟨(some 16), .op (.mv (.tmp 1)), none⟩,
    ⟨(some 17), .call (.func i_laws_heldOutMoveSS) [(.tmp 15), (.tmp 16)], none⟩,
    ⟨(some 1), .op (.mv (.tmp 17)), none⟩]) (.kill [12, 13, 14, 15, 16, 17]))
  (.seq (.post (.reg [⟨(some 18), .op (.mv (.tmp 1)), none⟩,
    ⟨(some 19), .op (.bin .lss (.tmp 18) (.const (Value.int .i64 0))), none⟩]) (.kill [18]))
  (.cond (.tmp 19) (.ghost (.kill [0, 1, 5, 19]) (.seq (.reg [⟨(some 4), .op (.mv (.const (Value.int .i64 (-1)))), none⟩])
  .ret))
  (.ghost (.kill [19]) .skip)))))
  (.post (.reg [⟨(some 10), .op (.mv (.tmp 5)), none⟩,
    ⟨(some 11), .op (.bin .add (.tmp 10) (.const (Value.int .i64 1))), none⟩,
    ⟨(some 5), .op (.mv (.tmp 11)), none⟩]) (.kill [10, 11]))))
def lo_laws_heldOutMoveSSS_0 : AC := (.loop lb_laws_heldOutMoveSSS_0)
def ac_laws_heldOutMoveSSS : AC := (.seq (.post (.reg [⟨(some 4), .op (.mv (.const (Value.int .i64 0))), none⟩]) (.kill [4]))
  (.seq (.seq (.reg [⟨(some 5), .op (.mv (.const (Value.int .i64 0))), none⟩])
  (.block 0 lo_laws_heldOutMoveSSS_0))
  (.ghost (.kill [0, 5]) (.seq (.post (.reg [⟨(some 20), .op (.mv (.tmp 1)), none⟩,
    ⟨(some 4), .op (.mv (.tmp 20)), none⟩]) (.kill [1, 20]))
  .ret))))
theorem cf_laws_heldOutMoveSSS : chkFn Try.prog i_laws_heldOutMoveSSS ac_laws_heldOutMoveSSS [.tmp 4] 21 = true := by decide +kernel
def fa_laws_heldOutMoveSSS : FnA := ⟨ac_laws_heldOutMoveSSS, [.tmp 4], 21, false, true, [], .any, none⟩

/-- The checked code of laws heldRewriter. -/
def ac_laws_heldRewriter : AC := (.seq (.post (.reg [⟨(some 2), .op (.box true (.tmp 0)), none⟩,
    ⟨(some 4), .op (.mv (.const (Value.int .i64 0))), none⟩]) (.kill [0, 4]))
  (.seq (.post (.reg [⟨(some 5), .op (.faddr (.tmp 2) 2), none⟩,
    ⟨(some 6), .op (.load 1 false (.tmp 5)), none⟩,
    ⟨(some 7), .op (.mv (.tmp 1)), none⟩,
    ⟨(some 8), .call (.func i_laws_heldOutPushSS) [(.tmp 6), (.tmp 7)], none⟩,
    ⟨(some 1), .op (.mv (.tmp 8)), none⟩]) (.kill [5, 6, 7, 8]))
  (.seq (.seq (.post (.reg [⟨(some 9), .op (.mv (.tmp 1)), none⟩,
    ⟨(some 10), .op (.bin .lss (.tmp 9) (.const (Value.int .i64 0))), none⟩]) (.kill [9]))
  (.cond (.tmp 10) (.ghost (.kill [1, 2, 10]) (.seq (.reg [⟨(some 4), .op (.mv (.const (Value.int .i64 (-1)))), none⟩])
  .ret))
  (.ghost (.kill [10]) .skip)))
  (.seq (.post (.reg [⟨(some 11), .op (.faddr (.tmp 2) 3), none⟩,
    ⟨(some 12), .op (.load 1 false (.tmp 11)), none⟩,
    ⟨(some 13), .op (.mv (.tmp 1)), none⟩,
    ⟨(some 14), .call (.func i_laws_heldOutMoveSSS) [(.tmp 12), (.tmp 13)], none⟩,
    ⟨(some 1), .op (.mv (.tmp 14)), none⟩]) (.kill [11, 12, 13, 14]))
  (.seq (.seq (.post (.reg [⟨(some 15), .op (.mv (.tmp 1)), none⟩,
    ⟨(some 16), .op (.bin .lss (.tmp 15) (.const (Value.int .i64 0))), none⟩]) (.kill [15]))
  (.cond (.tmp 16) (.ghost (.kill [1, 2, 16]) (.seq (.reg [⟨(some 4), .op (.mv (.const (Value.int .i64 (-1)))), none⟩])
  .ret))
  (.ghost (.kill [16]) .skip)))
  (.seq (.post (.reg [⟨(some 17), .op (.faddr (.tmp 2) 4), none⟩,
    ⟨(some 18), .op (.load 1 false (.tmp 17)), none⟩,
    ⟨(some 19), .op (.mv (.tmp 1)), none⟩,
    ⟨(some 20), .call (.func i_laws_heldOutMoveSS) [(.tmp 18), (.tmp 19)], none⟩,
    ⟨(some 1), .op (.mv (.tmp 20)), none⟩]) (.kill [2, 17, 18, 19, 20]))
  (.seq (.seq (.post (.reg [⟨(some 21), .op (.mv (.tmp 1)), none⟩,
    ⟨(some 22), .op (.bin .lss (.tmp 21) (.const (Value.int .i64 0))), none⟩]) (.kill [21]))
  (.cond (.tmp 22) (.ghost (.kill [1, 22]) (.seq (.reg [⟨(some 4), .op (.mv (.const (Value.int .i64 (-1)))), none⟩])
  .ret))
  (.ghost (.kill [22]) .skip)))
  (.seq (.post (.reg [⟨(some 23), .op (.mv (.tmp 1)), none⟩,
    ⟨(some 4), .op (.mv (.tmp 23)), none⟩]) (.kill [1, 23]))
  .ret))))))))
theorem cf_laws_heldRewriter : chkFn Try.prog i_laws_heldRewriter ac_laws_heldRewriter [.tmp 4] 24 = true := by decide +kernel
def fa_laws_heldRewriter : FnA := ⟨ac_laws_heldRewriter, [.tmp 4], 24, false, true, [(.agg [.any, .any, (.lst 1 (.lst 3 .any)), (.lst 1 (.lst 1 (.lst 2 .any))), (.lst 1 (.lst 2 .any))]), .any], .any, none⟩

/-- The checked code of laws FnExactRenameRewriter. -/
def ac_laws_FnExactRenameRewriter : AC := (.seq (.post (.reg [⟨(some 2), .op (.mv (.const (Value.bool false))), none⟩]) (.kill [2]))
  (.seq (.seq (.post (.reg [⟨(some 11), .op (.mv (.tmp 0)), none⟩,
    ⟨(some 12), .op (.len true (.tmp 11)), none⟩,
    ⟨(some 13), .op (.bin .gtr (.tmp 12) (.const (Value.int .i64 1048576))), none⟩]) (.kill [11, 12]))
  (.cond (.tmp 13) (.ghost (.kill [0, 13]) (.seq (.reg [⟨(some 2), .op (.mv (.const (Value.bool true))), none⟩])
  .ret))
  (.ghost (.kill [13]) .skip)))
  (.seq (.post (.reg [⟨(some 15), .op (.mv (.tmp 0)), none⟩,
    ⟨(some 16), .call (.func i_spec_RenameRewriter) [(.tmp 15)], none⟩,
    ⟨(some 14), .op (.mv (.tmp 16)), none⟩,
    ⟨(some 17), .op (.ext (.tmp 14) 0), none⟩,
    ⟨(some 18), .op (.ext (.tmp 14) 1), none⟩,
    ⟨(some 3), .op (.alloc (Value.agg #[Value.int .i64 0, Value.int .i64 0, Value.slice none 0 0, Value.slice none 0 0, Value.slice none 0 0])), none⟩,
    ⟨none, .op (.store 5 (.tmp 3) (.tmp 17)), none⟩,
    ⟨(some 4), .op (.mv (.tmp 18)), none⟩]) (.kill [14, 15, 16, 17, 18]))
  (.seq (.post (.reg [⟨(some 20), .op (.mv (.tmp 0)), none⟩,
    ⟨(some 21), .call (.func i_impl_RenameRewriter) [(.tmp 20)], none⟩,
    ⟨(some 19), .op (.mv (.tmp 21)), none⟩,
    ⟨(some 22), .op (.ext (.tmp 19) 0), none⟩,
    ⟨(some 23), .op (.ext (.tmp 19) 1), none⟩,
    ⟨(some 5), .op (.alloc (Value.agg #[Value.int .i64 0, Value.int .i64 0, Value.slice none 0 0, Value.slice none 0 0, Value.slice none 0 0])), none⟩,
    ⟨none, .op (.store 5 (.tmp 5) (.tmp 22)), none⟩,
    ⟨(some 6), .op (.mv (.tmp 23)), none⟩]) (.kill [19, 20, 21, 22, 23]))
  (.seq (.seq (.post (.reg [⟨(some 24), .op (.load 5 true (.tmp 5)), none⟩,
    ⟨(some 25), .op (.load 5 true (.tmp 3)), none⟩,
    ⟨(some 26), .call (.func i_laws_eqRewriter) [(.tmp 24), (.tmp 25)], none⟩,
    ⟨(some 27), .op (.un .not (.tmp 26)), none⟩,
    ⟨(some 28), .op (.mv (.tmp 27)), none⟩,
    ⟨(some 29), .op (.mv (.tmp 6)), some (28, false)⟩,
    ⟨(some 30), .op (.mv (.tmp 4)), some (28, false)⟩,
    ⟨(some 31), .op (.bin .neq (.tmp 29) (.tmp 30)), some (28, false)⟩,
    ⟨(some 32), .op (.pick (.tmp 28) (.const (Value.bool true)) (.tmp 31)), none⟩]) (.kill [6, 24, 25, 26, 27, 28, 29, 30, 31]))
  (.cond (.tmp 32) (.ghost (.kill [0, 3, 4, 5, 32]) (.seq (.reg [⟨(some 2), .op (.mv (.const (Value.bool false))), none⟩])
  .ret))
  (.ghost (.kill [32]) .skip)))
  (.seq (.reg [⟨(some 7), .op (.mv (.const (Value.int .i64 1))), none⟩])
  (.seq (.post (.reg [⟨(some 33), .op (.load 5 true (.tmp 5)), none⟩,
    ⟨(some 34), .op (.mv (.tmp 7)), none⟩,
    ⟨(some 35), .call (.func i_laws_markRewriter) [(.tmp 33), (.tmp 34)], none⟩,
    ⟨(some 7), .op (.mv (.tmp 35)), none⟩]) (.kill [33, 34, 35]))
  (.seq (.reg [⟨(some 8), .op (.mv (.const (Value.int .i64 1))), none⟩])
  (.seq (.post (.reg [⟨(some 36), .op (.load 5 true (.tmp 5)), none⟩,
    ⟨(some 37), .op (.mv (.tmp 8)), none⟩,
    ⟨(some 38), .call (.func i_laws_heldRewriter) [(.tmp 36), (.tmp 37)], none⟩,
    ⟨(some 8), .op (.mv (.tmp 38)), none⟩]) (.kill [36, 37, 38]))
  (.seq (.seq (.post (.reg [⟨(some 39), .op (.mv (.tmp 8)), none⟩,
    ⟨(some 40), .op (.bin .lss (.tmp 39) (.const (Value.int .i64 0))), none⟩]) (.kill [39]))
  (.cond (.tmp 40) (.ghost (.kill [0, 3, 4, 5, 7, 8, 40]) (.seq (.reg [⟨(some 2), .op (.mv (.const (Value.bool false))), none⟩])
  .ret))
  (.ghost (.kill [40]) .skip)))
  (.seq (.seq (.post (.reg [⟨(some 41), .op (.mv (.tmp 8)), none⟩,
    ⟨(some 42), .op (.mv (.tmp 7)), none⟩,
    ⟨(some 43), .op (.bin .neq (.tmp 41) (.tmp 42)), none⟩]) (.kill [8, 41, 42]))
  (.cond (.tmp 43) (.ghost (.kill [0, 3, 4, 5, 7, 43]) (.seq (.reg [⟨(some 2), .op (.mv (.const (Value.bool false))), none⟩])
  .ret))
  (.ghost (.kill [43]) .skip)))
  (.seq (.post (.reg [⟨(some 45), .op (.mv (.tmp 0)), none⟩,
    ⟨(some 46), .call (.func i_impl_RenameRewriter) [(.tmp 45)], none⟩,
    ⟨(some 44), .op (.mv (.tmp 46)), none⟩,
    ⟨(some 47), .op (.ext (.tmp 44) 0), none⟩,
    ⟨(some 48), .op (.ext (.tmp 44) 1), none⟩,
    ⟨(some 9), .op (.alloc (Value.agg #[Value.int .i64 0, Value.int .i64 0, Value.slice none 0 0, Value.slice none 0 0, Value.slice none 0 0])), none⟩,
    ⟨none, .op (.store 5 (.tmp 9) (.tmp 47)), none⟩,
    ⟨(some 10), .op (.mv (.tmp 48)), none⟩]) (.kill [0, 44, 45, 46, 47, 48]))
  (.seq (.seq (.post (.reg [⟨(some 49), .op (.load 5 true (.tmp 9)), none⟩,
    ⟨(some 50), .op (.load 5 true (.tmp 3)), none⟩,
    ⟨(some 51), .call (.func i_laws_eqRewriter) [(.tmp 49), (.tmp 50)], none⟩,
    ⟨(some 52), .op (.un .not (.tmp 51)), none⟩,
    ⟨(some 53), .op (.mv (.tmp 52)), none⟩,
    ⟨(some 54), .op (.mv (.tmp 10)), some (53, false)⟩,
    ⟨(some 55), .op (.mv (.tmp 4)), some (53, false)⟩,
    ⟨(some 56), .op (.bin .neq (.tmp 54) (.tmp 55)), some (53, false)⟩,
    ⟨(some 57), .op (.pick (.tmp 53) (.const (Value.bool true)) (.tmp 56)), none⟩]) (.kill [3, 4, 9, 10, 49, 50, 51, 52, 53, 54, 55, 56]))
  (.cond (.tmp 57) (.ghost (.kill [5, 7, 57]) (.seq (.reg [⟨(some 2), .op (.mv (.const (Value.bool false))), none⟩])
  .ret))
  (.ghost (.kill [57]) .skip)))
  (.seq (.reg [⟨(some 8), .op (.mv (.const (Value.int .i64 1))), none⟩])
  (.seq (.post (.reg [⟨(some 58), .op (.load 5 true (.tmp 5)), none⟩,
    ⟨(some 59), .op (.mv (.tmp 8)), none⟩,
    ⟨(some 60), .call (.func i_laws_heldRewriter) [(.tmp 58), (.tmp 59)], none⟩,
    ⟨(some 8), .op (.mv (.tmp 60)), none⟩]) (.kill [5, 58, 59, 60]))
  (.seq (.seq (.post (.reg [⟨(some 61), .op (.mv (.tmp 8)), none⟩,
    ⟨(some 62), .op (.bin .lss (.tmp 61) (.const (Value.int .i64 0))), none⟩]) (.kill [61]))
  (.cond (.tmp 62) (.ghost (.kill [7, 8, 62]) (.seq (.reg [⟨(some 2), .op (.mv (.const (Value.bool false))), none⟩])
  .ret))
  (.ghost (.kill [62]) .skip)))
  (.seq (.seq (.post (.reg [⟨(some 63), .op (.mv (.tmp 8)), none⟩,
    ⟨(some 64), .op (.mv (.tmp 7)), none⟩,
    ⟨(some 65), .op (.bin .neq (.tmp 63) (.tmp 64)), none⟩]) (.kill [7, 8, 63, 64]))
  (.cond (.tmp 65) (.ghost (.kill [65]) (.seq (.reg [⟨(some 2), .op (.mv (.const (Value.bool false))), none⟩])
  .ret))
  (.ghost (.kill [65]) .skip)))
  (.seq (.reg [⟨(some 2), .op (.mv (.const (Value.bool true))), none⟩])
  .ret))))))))))))))))))
theorem cf_laws_FnExactRenameRewriter : chkFn Try.prog i_laws_FnExactRenameRewriter ac_laws_FnExactRenameRewriter [.tmp 2] 66 = true := by decide +kernel
def fa_laws_FnExactRenameRewriter : FnA := ⟨ac_laws_FnExactRenameRewriter, [.tmp 2], 66, false, true, [], .any, none⟩

end Go.Proofs.Ytegjfjckijmgcaa
