/- The code of the functions, checked against the loaded program; printed by a program (gen2.py). -/
import Derived.Test.YtipmgemnjcjobaaDoorProg
import Derived.Test.YtipmgemnjcjobaaDoorAw25
import Derived.Test.YtipmgemnjcjobaaDoorG0
set_option linter.unusedVariables false
set_option maxRecDepth 100000
namespace Go.Proofs.YtipmgemnjcjobaaDoor
open Aw

/-- The checked code of spec ProgramText. -/
def ac_spec_ProgramText : AC := (.seq (.post (.reg [⟨(some 1), .op (.box true (.tmp 0)), none⟩,
    ⟨(some 2), .op (.mv (.const (Value.string ⟨#[]⟩))), none⟩]) (.kill [0, 2]))
  (.seq (.seq (.post (.reg [⟨(some 3), .call (.func i_spec_l07Ok) [(.tmp 1)], none⟩,
    ⟨(some 4), .op (.un .not (.tmp 3)), none⟩]) (.kill [3]))
  (.cond (.tmp 4) (.ghost (.kill [1, 4]) (.seq (.reg [⟨(some 2), .op (.mv (.const (Value.string ⟨#[]⟩))), none⟩])
  .ret))
  (.ghost (.kill [4]) .skip)))
  (.seq (.post (.reg [⟨(some 5), .call (.func i_spec_l07Text) [(.tmp 1)], none⟩,
    ⟨(some 2), .op (.mv (.tmp 5)), none⟩]) (.kill [1, 5]))
  .ret)))
theorem cf_spec_ProgramText : chkFn Tryd.prog i_spec_ProgramText ac_spec_ProgramText [.tmp 2] 6 = true := by decide +kernel
def fa_spec_ProgramText : FnA := ⟨ac_spec_ProgramText, [.tmp 2], 6, false, true, [], .any, none⟩

/-- The checked code of laws toLink. -/
def ac_laws_toLink : AC := (.seq (.post (.reg [⟨(some 1), .op (.box true (.tmp 0)), none⟩,
    ⟨(some 2), .op (.alloc (Value.agg #[Value.int .i64 0, Value.int .i64 0, Value.string ⟨#[]⟩, Value.int .i64 0])), none⟩]) (.kill [0]))
  (.seq (.reg [⟨(some 3), .op (.alloc (Value.agg #[Value.int .i64 0, Value.int .i64 0, Value.string ⟨#[]⟩, Value.int .i64 0])), none⟩])
  (.seq (.post (.reg [⟨(some 4), .op (.faddr (.tmp 1) 0), none⟩,
    ⟨(some 5), .op (.load 1 false (.tmp 4)), none⟩,
    ⟨(some 6), .op (.faddr (.tmp 3) 0), none⟩,
    ⟨none, .op (.store 1 (.tmp 6) (.tmp 5)), none⟩]) (.kill [4, 5, 6]))
  (.seq (.post (.reg [⟨(some 7), .op (.faddr (.tmp 1) 1), none⟩,
    ⟨(some 8), .op (.load 1 false (.tmp 7)), none⟩,
    ⟨(some 9), .op (.faddr (.tmp 3) 1), none⟩,
    ⟨none, .op (.store 1 (.tmp 9) (.tmp 8)), none⟩]) (.kill [7, 8, 9]))
  (.seq (.post (.reg [⟨(some 10), .op (.faddr (.tmp 1) 2), none⟩,
    ⟨(some 11), .op (.load 1 false (.tmp 10)), none⟩,
    ⟨(some 12), .op (.faddr (.tmp 3) 2), none⟩,
    ⟨none, .op (.store 1 (.tmp 12) (.tmp 11)), none⟩]) (.kill [10, 11, 12]))
  (.seq (.post (.reg [⟨(some 13), .op (.faddr (.tmp 1) 3), none⟩,
    ⟨(some 14), .op (.load 1 false (.tmp 13)), none⟩,
    ⟨(some 15), .op (.faddr (.tmp 3) 3), none⟩,
    ⟨none, .op (.store 1 (.tmp 15) (.tmp 14)), none⟩]) (.kill [1, 13, 14, 15]))
  (.seq (.post (.reg [⟨(some 16), .op (.load 4 true (.tmp 3)), none⟩,
    ⟨none, .op (.store 4 (.tmp 2) (.tmp 16)), none⟩]) (.kill [3, 16]))
  .ret)))))))
theorem cf_laws_toLink : chkFn Tryd.prog i_laws_toLink ac_laws_toLink [.cell 2 4 true] 17 = true := by decide +kernel
def fa_laws_toLink : FnA := ⟨ac_laws_toLink, [.cell 2 4 true], 17, false, true, [], .any, none⟩

/-- The checked code of laws toLinkS. -/
def lb_laws_toLinkS_0 : AC := (.post (.seq (.seq (.post (.reg [⟨(some 8), .op (.mv (.tmp 4)), none⟩,
    ⟨(some 9), .op (.mv (.tmp 0)), none⟩,
    ⟨(some 10), .op (.len false (.tmp 9)), none⟩,
    ⟨(some 11), .op (.bin .lss (.tmp 8) (.tmp 10)), none⟩]) (.kill [8, 9, 10]))
  (.cond (.tmp 11) (.ghost (.kill [11]) .skip)
  (.ghost (.kill [0, 4, 11]) (.exit 0))))
  (.seq (.block 1 (.post (.reg [⟨(some 14), .op (.mv (.tmp 3)), none⟩,
    ⟨(some 15), .op (.mv (.tmp 4)), none⟩,
    ⟨(some 16), .op (.mv (.tmp 0)), none⟩,
    ⟨(some 17), .op (.mv (.tmp 4)), none⟩,
    ⟨(some 18), .op (.iaddrS (.tmp 16) (.tmp 17) 4), none⟩,
    ⟨(some 19), .op (.load 4 true (.tmp 18)), none⟩,
    ⟨(some 20), .call (.func i_laws_toLink) [(.tmp 19)], none⟩,
    ⟨(some 21), .op (.iaddrS (.tmp 14) (.tmp 15) 4), none⟩,
    ⟨none, .op (.store 4 (.tmp 21) (.tmp 20)), none⟩]) (.kill [14, 15, 16, 17, 18, 19, 20, 21])))
  (.post (.reg [⟨(some 12), .op (.mv (.tmp 4)), none⟩,
    ⟨(some 13), .op (.bin .add (.tmp 12) (.const (Value.int .i64 1))), none⟩,
    ⟨(some 4), .op (.mv (.tmp 13)), none⟩]) (.kill [12, 13])))) .nv)
def lo_laws_toLinkS_0 : AC := (.loop lb_laws_toLinkS_0)
def ac_laws_toLinkS : AC := (.seq (.post (.reg [⟨(some 2), .op (.mv (.const (Value.slice none 0 0))), none⟩]) (.kill [2]))
  (.seq (.post (.reg [⟨(some 5), .op (.mv (.tmp 0)), none⟩,
    ⟨(some 6), .op (.len false (.tmp 5)), none⟩,
    ⟨(some 7), .op (.make (.tmp 6) (.tmp 6) 4 40 (Value.agg #[Value.int .i64 0, Value.int .i64 0, Value.string ⟨#[]⟩, Value.int .i64 0])), none⟩,
    ⟨(some 3), .op (.mv (.tmp 7)), none⟩]) (.kill [5, 6, 7]))
  (.seq (.seq (.reg [⟨(some 4), .op (.mv (.const (Value.int .i64 0))), none⟩])
  (.post (.block 0 (.ghost .nv lo_laws_toLinkS_0)) .nv))
  (.ghost (.kill [0, 4]) (.seq (.post (.reg [⟨(some 22), .op (.mv (.tmp 3)), none⟩,
    ⟨(some 2), .op (.mv (.tmp 22)), none⟩]) (.kill [3, 22]))
  .ret)))))
theorem cf_laws_toLinkS : chkFn Tryd.prog i_laws_toLinkS ac_laws_toLinkS [.tmp 2] 23 = true := by decide +kernel
def fa_laws_toLinkS : FnA := ⟨ac_laws_toLinkS, [.tmp 2], 23, false, true, [], .any, none⟩

/-- The checked code of laws toModule. -/
def ac_laws_toModule : AC := (.seq (.post (.reg [⟨(some 1), .op (.box true (.tmp 0)), none⟩,
    ⟨(some 2), .op (.alloc (Value.agg #[Value.int .i64 0, Value.slice none 0 0])), none⟩]) (.kill [0]))
  (.seq (.reg [⟨(some 3), .op (.alloc (Value.agg #[Value.int .i64 0, Value.slice none 0 0])), none⟩])
  (.seq (.post (.reg [⟨(some 4), .op (.faddr (.tmp 1) 0), none⟩,
    ⟨(some 5), .op (.load 1 false (.tmp 4)), none⟩,
    ⟨(some 6), .op (.faddr (.tmp 3) 0), none⟩,
    ⟨none, .op (.store 1 (.tmp 6) (.tmp 5)), none⟩]) (.kill [4, 5, 6]))
  (.seq (.post (.reg [⟨(some 7), .op (.faddr (.tmp 1) 1), none⟩,
    ⟨(some 8), .op (.load 1 false (.tmp 7)), none⟩,
    ⟨(some 9), .call (.func i_laws_toLinkS) [(.tmp 8)], none⟩,
    ⟨(some 10), .op (.faddr (.tmp 3) 1), none⟩,
    ⟨none, .op (.store 1 (.tmp 10) (.tmp 9)), none⟩]) (.kill [1, 7, 8, 9, 10]))
  (.seq (.post (.reg [⟨(some 11), .op (.load 2 true (.tmp 3)), none⟩,
    ⟨none, .op (.store 2 (.tmp 2) (.tmp 11)), none⟩]) (.kill [3, 11]))
  .ret)))))
theorem cf_laws_toModule : chkFn Tryd.prog i_laws_toModule ac_laws_toModule [.cell 2 2 true] 12 = true := by decide +kernel
def fa_laws_toModule : FnA := ⟨ac_laws_toModule, [.cell 2 2 true], 12, false, true, [], .any, none⟩

/-- The checked code of laws toModuleS. -/
def lb_laws_toModuleS_0 : AC := (.post (.seq (.seq (.post (.reg [⟨(some 8), .op (.mv (.tmp 4)), none⟩,
    ⟨(some 9), .op (.mv (.tmp 0)), none⟩,
    ⟨(some 10), .op (.len false (.tmp 9)), none⟩,
    ⟨(some 11), .op (.bin .lss (.tmp 8) (.tmp 10)), none⟩]) (.kill [8, 9, 10]))
  (.cond (.tmp 11) (.ghost (.kill [11]) .skip)
  (.ghost (.kill [0, 4, 11]) (.exit 0))))
  (.seq (.block 1 (.post (.reg [⟨(some 14), .op (.mv (.tmp 3)), none⟩,
    ⟨(some 15), .op (.mv (.tmp 4)), none⟩,
    ⟨(some 16), .op (.mv (.tmp 0)), none⟩,
    ⟨(some 17), .op (.mv (.tmp 4)), none⟩,
    ⟨(some 18), .op (.iaddrS (.tmp 16) (.tmp 17) 2), none⟩,
    ⟨(some 19), .op (.load 2 true (.tmp 18)), none⟩,
    ⟨(some 20), .call (.func i_laws_toModule) [(.tmp 19)], none⟩,
    ⟨(some 21), .op (.iaddrS (.tmp 14) (.tmp 15) 2), none⟩,
    ⟨none, .op (.store 2 (.tmp 21) (.tmp 20)), none⟩]) (.kill [14, 15, 16, 17, 18, 19, 20, 21])))
  (.post (.reg [⟨(some 12), .op (.mv (.tmp 4)), none⟩,
    ⟨(some 13), .op (.bin .add (.tmp 12) (.const (Value.int .i64 1))), none⟩,
    ⟨(some 4), .op (.mv (.tmp 13)), none⟩]) (.kill [12, 13])))) .nv)
def lo_laws_toModuleS_0 : AC := (.loop lb_laws_toModuleS_0)
def ac_laws_toModuleS : AC := (.seq (.post (.reg [⟨(some 2), .op (.mv (.const (Value.slice none 0 0))), none⟩]) (.kill [2]))
  (.seq (.post (.reg [⟨(some 5), .op (.mv (.tmp 0)), none⟩,
    ⟨(some 6), .op (.len false (.tmp 5)), none⟩,
    ⟨(some 7), .op (.make (.tmp 6) (.tmp 6) 2 32 (Value.agg #[Value.int .i64 0, Value.slice none 0 0])), none⟩,
    ⟨(some 3), .op (.mv (.tmp 7)), none⟩]) (.kill [5, 6, 7]))
  (.seq (.seq (.reg [⟨(some 4), .op (.mv (.const (Value.int .i64 0))), none⟩])
  (.post (.block 0 (.ghost .nv lo_laws_toModuleS_0)) .nv))
  (.ghost (.kill [0, 4]) (.seq (.post (.reg [⟨(some 22), .op (.mv (.tmp 3)), none⟩,
    ⟨(some 2), .op (.mv (.tmp 22)), none⟩]) (.kill [3, 22]))
  .ret)))))
theorem cf_laws_toModuleS : chkFn Tryd.prog i_laws_toModuleS ac_laws_toModuleS [.tmp 2] 23 = true := by decide +kernel
def fa_laws_toModuleS : FnA := ⟨ac_laws_toModuleS, [.tmp 2], 23, false, true, [], .any, none⟩

/-- The checked code of laws toProgram. -/
def ac_laws_toProgram : AC := (.seq (.post (.reg [⟨(some 1), .op (.box true (.tmp 0)), none⟩,
    ⟨(some 2), .op (.alloc (Value.agg #[Value.slice none 0 0])), none⟩]) (.kill [0]))
  (.seq (.reg [⟨(some 3), .op (.alloc (Value.agg #[Value.slice none 0 0])), none⟩])
  (.seq (.post (.reg [⟨(some 4), .op (.faddr (.tmp 1) 0), none⟩,
    ⟨(some 5), .op (.load 1 false (.tmp 4)), none⟩,
    ⟨(some 6), .call (.func i_laws_toModuleS) [(.tmp 5)], none⟩,
    ⟨(some 7), .op (.faddr (.tmp 3) 0), none⟩,
    ⟨none, .op (.store 1 (.tmp 7) (.tmp 6)), none⟩]) (.kill [1, 4, 5, 6, 7]))
  (.seq (.post (.reg [⟨(some 8), .op (.load 1 true (.tmp 3)), none⟩,
    ⟨none, .op (.store 1 (.tmp 2) (.tmp 8)), none⟩]) (.kill [3, 8]))
  .ret))))
theorem cf_laws_toProgram : chkFn Tryd.prog i_laws_toProgram ac_laws_toProgram [.cell 2 1 true] 9 = true := by decide +kernel
def fa_laws_toProgram : FnA := ⟨ac_laws_toProgram, [.cell 2 1 true], 9, false, true, [], .any, none⟩

/-- The checked code of impl Module . -/
def ac_impl_size_impl_Module : AC := (.seq (.post (.reg [⟨(some 2), .op (.mv (.const (Value.int .i64 0))), none⟩]) (.kill [2]))
  (.seq (.post (.reg [⟨(some 3), .op (.mv (.tmp 0)), none⟩,
    ⟨(some 4), .op (.len false (.tmp 3)), none⟩,
    ⟨(some 2), .op (.mv (.tmp 4)), none⟩]) (.kill [0, 3, 4]))
  .ret))
theorem cf_impl_size_impl_Module : chkFn Tryd.prog i_impl_size_impl_Module ac_impl_size_impl_Module [.tmp 2] 5 = true := by decide +kernel
def fa_impl_size_impl_Module : FnA := ⟨ac_impl_size_impl_Module, [.tmp 2], 5, false, true, [], .any, none⟩

/-- The checked code of impl Module . -/
def lb_slices_IndexFunc_L_impl_Module_0 : AC := (.seq (.reg [⟨(some 9), .op (.bin .lss (.tmp 8) (.tmp 7)), none⟩])
  (.seq (.cond (.tmp 9) (.ghost (.kill [9]) .skip)
  (.ghost (.kill [0, 1, 7, 8, 9]) (.exit 0)))
  (.seq (.block 1 (.seq (.post (.reg [⟨(some 10), .op (.mv (.tmp 8)), none⟩,
    ⟨(some 5), .op (.mv (.tmp 10)), none⟩]) (.kill [10]))
  (.seq (.post (.reg [⟨(some 11), .op (.mv (.tmp 1)), none⟩,
    ⟨(some 12), .op (.mv (.tmp 0)), none⟩,
    ⟨(some 13), .op (.mv (.tmp 5)), none⟩,
    ⟨(some 14), .op (.iaddrS (.tmp 12) (.tmp 13) 2), none⟩,
    ⟨(some 15), .op (.load 2 true (.tmp 14)), none⟩,
    ⟨(some 16), .call (.tmp 11) [(.tmp 15)], none⟩]) (.kill [11, 12, 13, 14, 15]))
  (.cond (.tmp 16) (.ghost (.kill [0, 1, 7, 8, 16]) (.seq (.post (.reg [⟨(some 17), .op (.mv (.tmp 5)), none⟩,
    ⟨(some 4), .op (.mv (.tmp 17)), none⟩]) (.kill [5, 17]))
  .ret))
  (.ghost (.kill [5, 16]) .skip)))))
  (.post (.reg [⟨(some 18), .op (.bin .add (.tmp 8) (.const (Value.int .i64 1))), none⟩,
    ⟨(some 8), .op (.mv (.tmp 18)), none⟩]) (.kill [18])))))
def lo_slices_IndexFunc_L_impl_Module_0 : AC := (.loop lb_slices_IndexFunc_L_impl_Module_0)
def ac_slices_IndexFunc_L_impl_Module : AC := (.seq (.post (.reg [⟨(some 4), .op (.mv (.const (Value.int .i64 0))), none⟩]) (.kill [4]))
  (.seq (.seq (.post (.reg [⟨(some 6), .op (.mv (.tmp 0)), none⟩,
    ⟨(some 7), .op (.len false (.tmp 6)), none⟩,
    ⟨(some 8), .op (.mv (.const (Value.int .i64 0))), none⟩]) (.kill [6]))
  (.block 0 lo_slices_IndexFunc_L_impl_Module_0))
  (.ghost (.kill [0, 1, 7, 8]) (.seq (.reg [⟨(some 4), .op (.mv (.const (Value.int .i64 (-1)))), none⟩])
  .ret))))
theorem cf_slices_IndexFunc_L_impl_Module : chkFn Tryd.prog i_slices_IndexFunc_L_impl_Module ac_slices_IndexFunc_L_impl_Module [.tmp 4] 19 = true := by decide +kernel
def fa_slices_IndexFunc_L_impl_Module : FnA := ⟨ac_slices_IndexFunc_L_impl_Module, [.tmp 4], 19, false, true, [], .any, none⟩

/-- The checked code of impl Module . -/
def ac_slices_ContainsFunc_L_impl_Module : AC := (.seq (.post (.reg [⟨(some 4), .op (.mv (.const (Value.bool false))), none⟩]) (.kill [4]))
  (.seq (.post (.reg [⟨(some 5), .op (.mv (.tmp 0)), none⟩,
    ⟨(some 6), .op (.mv (.tmp 1)), none⟩,
    ⟨(some 7), .call (.func i_slices_IndexFunc_L_impl_Module) [(.tmp 5), (.tmp 6)], none⟩,
    ⟨(some 8), .op (.bin .geq (.tmp 7) (.const (Value.int .i64 0))), none⟩,
    ⟨(some 4), .op (.mv (.tmp 8)), none⟩]) (.kill [0, 1, 5, 6, 7, 8]))
  .ret))
theorem cf_slices_ContainsFunc_L_impl_Module : chkFn Tryd.prog i_slices_ContainsFunc_L_impl_Module ac_slices_ContainsFunc_L_impl_Module [.tmp 4] 9 = true := by decide +kernel
def fa_slices_ContainsFunc_L_impl_Module : FnA := ⟨ac_slices_ContainsFunc_L_impl_Module, [.tmp 4], 9, false, true, [], .any, none⟩

/-- The checked code of impl Link . -/
def lb_slices_IndexFunc_L_impl_Link_0 : AC := (.seq (.reg [⟨(some 9), .op (.bin .lss (.tmp 8) (.tmp 7)), none⟩])
  (.seq (.cond (.tmp 9) (.ghost (.kill [9]) .skip)
  (.ghost (.kill [0, 1, 7, 8, 9]) (.exit 0)))
  (.seq (.block 1 (.seq (.post (.reg [⟨(some 10), .op (.mv (.tmp 8)), none⟩,
    ⟨(some 5), .op (.mv (.tmp 10)), none⟩]) (.kill [10]))
  (.seq (.post (.reg [⟨(some 11), .op (.mv (.tmp 1)), none⟩,
    ⟨(some 12), .op (.mv (.tmp 0)), none⟩,
    ⟨(some 13), .op (.mv (.tmp 5)), none⟩,
    ⟨(some 14), .op (.iaddrS (.tmp 12) (.tmp 13) 4), none⟩,
    ⟨(some 15), .op (.load 4 true (.tmp 14)), none⟩,
    ⟨(some 16), .call (.tmp 11) [(.tmp 15)], none⟩]) (.kill [11, 12, 13, 14, 15]))
  (.cond (.tmp 16) (.ghost (.kill [0, 1, 7, 8, 16]) (.seq (.post (.reg [⟨(some 17), .op (.mv (.tmp 5)), none⟩,
    ⟨(some 4), .op (.mv (.tmp 17)), none⟩]) (.kill [5, 17]))
  .ret))
  (.ghost (.kill [5, 16]) .skip)))))
  (.post (.reg [⟨(some 18), .op (.bin .add (.tmp 8) (.const (Value.int .i64 1))), none⟩,
    ⟨(some 8), .op (.mv (.tmp 18)), none⟩]) (.kill [18])))))
def lo_slices_IndexFunc_L_impl_Link_0 : AC := (.loop lb_slices_IndexFunc_L_impl_Link_0)
def ac_slices_IndexFunc_L_impl_Link : AC := (.seq (.post (.reg [⟨(some 4), .op (.mv (.const (Value.int .i64 0))), none⟩]) (.kill [4]))
  (.seq (.seq (.post (.reg [⟨(some 6), .op (.mv (.tmp 0)), none⟩,
    ⟨(some 7), .op (.len false (.tmp 6)), none⟩,
    ⟨(some 8), .op (.mv (.const (Value.int .i64 0))), none⟩]) (.kill [6]))
  (.block 0 lo_slices_IndexFunc_L_impl_Link_0))
  (.ghost (.kill [0, 1, 7, 8]) (.seq (.reg [⟨(some 4), .op (.mv (.const (Value.int .i64 (-1)))), none⟩])
  .ret))))
theorem cf_slices_IndexFunc_L_impl_Link : chkFn Tryd.prog i_slices_IndexFunc_L_impl_Link ac_slices_IndexFunc_L_impl_Link [.tmp 4] 19 = true := by decide +kernel
def fa_slices_IndexFunc_L_impl_Link : FnA := ⟨ac_slices_IndexFunc_L_impl_Link, [.tmp 4], 19, false, true, [], .any, none⟩

/-- The checked code of impl Link . -/
def ac_slices_ContainsFunc_L_impl_Link : AC := (.seq (.post (.reg [⟨(some 4), .op (.mv (.const (Value.bool false))), none⟩]) (.kill [4]))
  (.seq (.post (.reg [⟨(some 5), .op (.mv (.tmp 0)), none⟩,
    ⟨(some 6), .op (.mv (.tmp 1)), none⟩,
    ⟨(some 7), .call (.func i_slices_IndexFunc_L_impl_Link) [(.tmp 5), (.tmp 6)], none⟩,
    ⟨(some 8), .op (.bin .geq (.tmp 7) (.const (Value.int .i64 0))), none⟩,
    ⟨(some 4), .op (.mv (.tmp 8)), none⟩]) (.kill [0, 1, 5, 6, 7, 8]))
  .ret))
theorem cf_slices_ContainsFunc_L_impl_Link : chkFn Tryd.prog i_slices_ContainsFunc_L_impl_Link ac_slices_ContainsFunc_L_impl_Link [.tmp 4] 9 = true := by decide +kernel
def fa_slices_ContainsFunc_L_impl_Link : FnA := ⟨ac_slices_ContainsFunc_L_impl_Link, [.tmp 4], 9, false, true, [], .any, none⟩

/-- The checked code of impl isCall. -/
def ac_impl_isCall : AC := (.seq (.post (.reg [⟨(some 2), .op (.mv (.const (Value.bool false))), none⟩]) (.kill [2]))
  (.seq (.post (.reg [⟨(some 3), .op (.mv (.tmp 0)), none⟩,
    ⟨(some 4), .op (.bin .eql (.tmp 3) (.const (Value.int .u8 40))), none⟩,
    ⟨(some 5), .op (.mv (.tmp 4)), none⟩,
    ⟨(some 6), .op (.mv (.tmp 0)), some (5, false)⟩,
    ⟨(some 7), .op (.bin .eql (.tmp 6) (.const (Value.int .u8 91))), some (5, false)⟩,
    ⟨(some 8), .op (.pick (.tmp 5) (.const (Value.bool true)) (.tmp 7)), none⟩,
    ⟨(some 2), .op (.mv (.tmp 8)), none⟩]) (.kill [0, 3, 4, 5, 6, 7, 8]))
  .ret))
theorem cf_impl_isCall : chkFn Tryd.prog i_impl_isCall ac_impl_isCall [.tmp 2] 9 = true := by decide +kernel
def fa_impl_isCall : FnA := ⟨ac_impl_isCall, [.tmp 2], 9, false, true, [], .any, none⟩

/-- The checked code of impl isReturn. -/
def ac_impl_isReturn : AC := (.seq (.post (.reg [⟨(some 2), .op (.mv (.const (Value.bool false))), none⟩]) (.kill [2]))
  (.seq (.post (.reg [⟨(some 3), .op (.mv (.tmp 0)), none⟩,
    ⟨(some 4), .op (.bin .eql (.tmp 3) (.const (Value.int .u8 41))), none⟩,
    ⟨(some 5), .op (.mv (.tmp 4)), none⟩,
    ⟨(some 6), .op (.mv (.tmp 0)), some (5, false)⟩,
    ⟨(some 7), .op (.bin .eql (.tmp 6) (.const (Value.int .u8 93))), some (5, false)⟩,
    ⟨(some 8), .op (.pick (.tmp 5) (.const (Value.bool true)) (.tmp 7)), none⟩,
    ⟨(some 2), .op (.mv (.tmp 8)), none⟩]) (.kill [0, 3, 4, 5, 6, 7, 8]))
  .ret))
theorem cf_impl_isReturn : chkFn Tryd.prog i_impl_isReturn ac_impl_isReturn [.tmp 2] 9 = true := by decide +kernel
def fa_impl_isReturn : FnA := ⟨ac_impl_isReturn, [.tmp 2], 9, false, true, [], .any, none⟩

/-- The checked code of impl isBrackets. -/
def ac_impl_isBrackets : AC := (.seq (.post (.reg [⟨(some 2), .op (.mv (.const (Value.bool false))), none⟩]) (.kill [2]))
  (.seq (.post (.reg [⟨(some 3), .op (.mv (.tmp 0)), none⟩,
    ⟨(some 4), .op (.len true (.tmp 3)), none⟩,
    ⟨(some 5), .op (.bin .eql (.tmp 4) (.const (Value.int .i64 2))), none⟩,
    ⟨(some 6), .op (.mv (.tmp 5)), none⟩,
    ⟨(some 7), .op (.mv (.tmp 0)), some (6, true)⟩,
    ⟨(some 8), .op (.idxStr (.tmp 7) (.const (Value.int .i64 0))), some (6, true)⟩,
    ⟨(some 9), .call (.func i_impl_isCall) [(.tmp 8)], some (6, true)⟩,
    ⟨(some 10), .op (.pick (.tmp 6) (.tmp 9) (.const (Value.bool false))), none⟩,
    ⟨(some 11), .op (.mv (.tmp 10)), none⟩,
    ⟨(some 12), .op (.mv (.tmp 0)), some (11, true)⟩,
    ⟨(some 13), .op (.idxStr (.tmp 12) (.const (Value.int .i64 1))), some (11, true)⟩,
    ⟨(some 14), .call (.func i_impl_isReturn) [(.tmp 13)], some (11, true)⟩,
    ⟨(some 15), .op (.pick (.tmp 11) (.tmp 14) (.const (Value.bool false))), none⟩,
    ⟨(some 2), .op (.mv (.tmp 15)), none⟩]) (.kill [0, 3, 4, 5, 6, 7, 8, 9, 10, 11, 12, 13, 14, 15]))
  .ret))
theorem cf_impl_isBrackets : chkFn Tryd.prog i_impl_isBrackets ac_impl_isBrackets [.tmp 2] 16 = true := by decide +kernel
def fa_impl_isBrackets : FnA := ⟨ac_impl_isBrackets, [.tmp 2], 16, false, true, [], .any, none⟩

/-- The checked code of impl isLetter. -/
def ac_impl_isLetter : AC := (.seq (.post (.reg [⟨(some 2), .op (.mv (.const (Value.bool false))), none⟩]) (.kill [2]))
  (.seq (.post (.reg [⟨(some 3), .op (.mv (.tmp 0)), none⟩,
    ⟨(some 4), .op (.bin .eql (.tmp 3) (.const (Value.string ⟨#[97]⟩))), none⟩,
    ⟨(some 5), .op (.mv (.tmp 4)), none⟩,
    ⟨(some 6), .op (.mv (.tmp 0)), some (5, false)⟩,
    ⟨(some 7), .op (.bin .eql (.tmp 6) (.const (Value.string ⟨#[98]⟩))), some (5, false)⟩,
    ⟨(some 8), .op (.pick (.tmp 5) (.const (Value.bool true)) (.tmp 7)), none⟩,
    ⟨(some 2), .op (.mv (.tmp 8)), none⟩]) (.kill [0, 3, 4, 5, 6, 7, 8]))
  .ret))
theorem cf_impl_isLetter : chkFn Tryd.prog i_impl_isLetter ac_impl_isLetter [.tmp 2] 9 = true := by decide +kernel
def fa_impl_isLetter : FnA := ⟨ac_impl_isLetter, [.tmp 2], 9, false, true, [], .any, none⟩

/-- The checked code of impl ValidProgram 1 1. -/
def ac_impl_ValidProgram_1_1 : AC := (.seq (.post (.reg [⟨(some 3), .op (.box true (.tmp 0)), none⟩,
    ⟨(some 4), .op (.mv (.const (Value.bool false))), none⟩]) (.kill [0, 4]))
  (.seq (.seq (.post (.reg [⟨(some 5), .op (.faddr (.tmp 3) 0), none⟩,
    ⟨(some 6), .op (.load 1 false (.tmp 5)), none⟩,
    ⟨(some 7), .op (.faddr (.tmp 1) 0), none⟩,
    ⟨(some 8), .op (.load 1 false (.tmp 7)), none⟩,
    ⟨(some 9), .op (.bin .sub (.tmp 8) (.const (Value.int .i64 1))), none⟩,
    ⟨(some 10), .call (.func i_impl_within) [(.tmp 6), (.const (Value.int .i64 0)), (.tmp 9)], none⟩,
    ⟨(some 11), .op (.un .not (.tmp 10)), none⟩,
    ⟨(some 12), .op (.mv (.tmp 11)), none⟩,
    ⟨(some 13), .op (.faddr (.tmp 3) 1), some (12, false)⟩,
    ⟨(some 14), .op (.load 1 false (.tmp 13)), some (12, false)⟩,
    ⟨(some 15), .op (.faddr (.tmp 1) 0), some (12, false)⟩,
    ⟨(some 16), .op (.load 1 false (.tmp 15)), some (12, false)⟩,
    ⟨(some 17), .op (.bin .sub (.tmp 16) (.const (Value.int .i64 1))), some (12, false)⟩,
    ⟨(some 18), .call (.func i_impl_within) [(.tmp 14), (.const (Value.int .i64 0)), (.tmp 17)], some (12, false)⟩,
    ⟨(some 19), .op (.un .not (.tmp 18)), some (12, false)⟩,
    ⟨(some 20), .op (.pick (.tmp 12) (.const (Value.bool true)) (.tmp 19)), none⟩,
    ⟨(some 21), .op (.mv (.tmp 20)), none⟩,
    ⟨(some 22), .op (.faddr (.tmp 3) 3), some (21, false)⟩,
    ⟨(some 23), .op (.load 1 false (.tmp 22)), some (21, false)⟩,
    ⟨(some 24), .op (.load 1 false (.tmp 2)), some (21, false)⟩,
    ⟨(some 25), .op (.bin .sub (.tmp 24) (.const (Value.int .i64 1))), some (21, false)⟩,
    ⟨(some 26), .call (.func i_impl_within) [(.tmp 23), (.const (Value.int .i64 0)), (.tmp 25)], some (21, false)⟩,
    ⟨(some 27), .op (.un .not (.tmp 26)), some (21, false)⟩,
    ⟨(some 28), .op (.pick (.tmp 21) (.const (Value.bool true)) (.tmp 27)), none⟩]) (.kill [1, 2, 5, 6, 7, 8, 9, 10, 11, 12, 13, 14, 15, 16, 17, 18, 19, 20, 21, 22, 23, 24, 25, 26, 27]))
  (.cond (.tmp 28) (.ghost (.kill [3, 28]) (.seq (.reg [⟨(some 4), .op (.mv (.const (Value.bool true))), none⟩])
  .ret))
  (.ghost (.kill [28]) .skip)))
  (.seq (.post (.reg [⟨(some 29), .op (.faddr (.tmp 3) 2), none⟩,
    ⟨(some 30), .op (.load 1 false (.tmp 29)), none⟩,
    ⟨(some 31), .call (.func i_impl_isBrackets) [(.tmp 30)], none⟩,
    ⟨(some 32), .op (.un .not (.tmp 31)), none⟩,
    ⟨(some 33), .op (.mv (.tmp 32)), none⟩,
    ⟨(some 34), .op (.faddr (.tmp 3) 2), some (33, true)⟩,
    ⟨(some 35), .op (.load 1 false (.tmp 34)), some (33, true)⟩,
    ⟨(some 36), .call (.func i_impl_isLetter) [(.tmp 35)], some (33, true)⟩,
    ⟨(some 37), .op (.un .not (.tmp 36)), some (33, true)⟩,
    ⟨(some 38), .op (.mv (.tmp 37)), some (33, true)⟩,
    ⟨(some 39), .op (.faddr (.tmp 3) 3), some (38, false)⟩,
    ⟨(some 40), .op (.load 1 false (.tmp 39)), some (38, false)⟩,
    ⟨(some 41), .op (.bin .neq (.tmp 40) (.const (Value.int .i64 0))), some (38, false)⟩,
    ⟨(some 42), .op (.pick (.tmp 38) (.const (Value.bool true)) (.tmp 41)), some (33, true)⟩,
    ⟨(some 43), .op (.pick (.tmp 33) (.tmp 42) (.const (Value.bool false))), none⟩,
    ⟨(some 4), .op (.mv (.tmp 43)), none⟩]) (.kill [3, 29, 30, 31, 32, 33, 34, 35, 36, 37, 38, 39, 40, 41, 42, 43]))
  .ret)))
theorem cf_impl_ValidProgram_1_1 : chkFn Tryd.prog i_impl_ValidProgram_1_1 ac_impl_ValidProgram_1_1 [.tmp 4] 44 = true := by decide +kernel
def fa_impl_ValidProgram_1_1 : FnA := ⟨ac_impl_ValidProgram_1_1, [.tmp 4], 44, false, true, [], .any, none⟩

/-- The checked code of impl ValidProgram 1. -/
def ac_impl_ValidProgram_1 : AC := (.seq (.post (.reg [⟨(some 2), .op (.box true (.tmp 0)), none⟩,
    ⟨(some 3), .op (.mv (.const (Value.bool false))), none⟩]) (.kill [0, 3]))
  (.seq (.post (.reg [⟨(some 4), .op (.faddr (.tmp 2) 0), none⟩,
    ⟨(some 5), .op (.load 1 false (.tmp 4)), none⟩,
    ⟨(some 6), .call (.func i_impl_within) [(.tmp 5), (.const (Value.int .i64 1)), (.const (Value.int .i64 8))], none⟩,
    ⟨(some 7), .op (.un .not (.tmp 6)), none⟩,
    ⟨(some 8), .op (.mv (.tmp 7)), none⟩,
    ⟨(some 9), .op (.faddr (.tmp 2) 1), some (8, false)⟩,
    ⟨(some 10), .op (.load 1 false (.tmp 9)), some (8, false)⟩,
    ⟨(some 11), .op (.len false (.tmp 10)), some (8, false)⟩,
    ⟨(some 12), .op (.bin .gtr (.tmp 11) (.const (Value.int .i64 12))), some (8, false)⟩,
    ⟨(some 13), .op (.pick (.tmp 8) (.const (Value.bool true)) (.tmp 12)), none⟩,
    ⟨(some 14), .op (.mv (.tmp 13)), none⟩,
    ⟨(some 15), .op (.faddr (.tmp 2) 1), some (14, false)⟩,
    ⟨(some 16), .op (.load 1 false (.tmp 15)), some (14, false)⟩,
    ⟨(some 17), .op (.mkfn i_impl_ValidProgram_1_1 [(.tmp 2), (.tmp 1)]), some (14, false)⟩,
    ⟨(some 18), .call (.func i_slices_ContainsFunc_L_impl_Link) [(.tmp 16), (.tmp 17)], some (14, false)⟩,
    ⟨(some 19), .op (.pick (.tmp 14) (.const (Value.bool true)) (.tmp 18)), none⟩,
    ⟨(some 3), .op (.mv (.tmp 19)), none⟩]) (.kill [1, 2, 4, 5, 6, 7, 8, 9, 10, 11, 12, 13, 14, 15, 16, 17, 18, 19]))
  .ret))
theorem cf_impl_ValidProgram_1 : chkFn Tryd.prog i_impl_ValidProgram_1 ac_impl_ValidProgram_1 [.tmp 3] 20 = true := by decide +kernel
def fa_impl_ValidProgram_1 : FnA := ⟨ac_impl_ValidProgram_1, [.tmp 3], 20, false, true, [], .any, none⟩

/-- The checked code of impl ValidProgram. -/
def ac_impl_ValidProgram : AC := (.seq (.post (.reg [⟨(some 1), .op (.box true (.tmp 0)), none⟩,
    ⟨(some 2), .op (.mv (.const (Value.bool false))), none⟩]) (.kill [0, 2]))
  (.seq (.post (.reg [⟨(some 4), .op (.faddr (.tmp 1) 0), none⟩,
    ⟨(some 5), .op (.load 1 false (.tmp 4)), none⟩,
    ⟨(some 6), .call (.func i_impl_size_impl_Module) [(.tmp 5)], none⟩,
    ⟨(some 3), .op (.alloc (Value.int .i64 0)), none⟩,
    ⟨none, .op (.store 1 (.tmp 3) (.tmp 6)), none⟩]) (.kill [4, 5, 6]))
  (.seq (.post (.reg [⟨(some 7), .op (.load 1 false (.tmp 3)), none⟩,
    ⟨(some 8), .call (.func i_impl_within) [(.tmp 7), (.const (Value.int .i64 1)), (.const (Value.int .i64 4))], none⟩,
    ⟨(some 9), .op (.mv (.tmp 8)), none⟩,
    ⟨(some 10), .op (.faddr (.tmp 1) 0), some (9, true)⟩,
    ⟨(some 11), .op (.load 1 false (.tmp 10)), some (9, true)⟩,
    ⟨(some 12), .op (.mkfn i_impl_ValidProgram_1 [(.tmp 3)]), some (9, true)⟩,
    ⟨(some 13), .call (.func i_slices_ContainsFunc_L_impl_Module) [(.tmp 11), (.tmp 12)], some (9, true)⟩,
    ⟨(some 14), .op (.un .not (.tmp 13)), some (9, true)⟩,
    ⟨(some 15), .op (.pick (.tmp 9) (.tmp 14) (.const (Value.bool false))), none⟩,
    ⟨(some 2), .op (.mv (.tmp 15)), none⟩]) (.kill [1, 3, 7, 8, 9, 10, 11, 12, 13, 14, 15]))
  .ret)))
theorem cf_impl_ValidProgram : chkFn Tryd.prog i_impl_ValidProgram ac_impl_ValidProgram [.tmp 2] 16 = true := by decide +kernel
def fa_impl_ValidProgram : FnA := ⟨ac_impl_ValidProgram, [.tmp 2], 16, false, true, [], .any, none⟩

/-- The checked code of impl Link  isCallLink. -/
def ac_impl_Link_isCallLink : AC := (.seq (.post (.reg [⟨(some 1), .op (.box true (.tmp 0)), none⟩,
    ⟨(some 2), .op (.mv (.const (Value.bool false))), none⟩]) (.kill [0, 2]))
  (.seq (.post (.reg [⟨(some 3), .op (.faddr (.tmp 1) 2), none⟩,
    ⟨(some 4), .op (.load 1 false (.tmp 3)), none⟩,
    ⟨(some 5), .op (.len true (.tmp 4)), none⟩,
    ⟨(some 6), .op (.bin .eql (.tmp 5) (.const (Value.int .i64 2))), none⟩,
    ⟨(some 2), .op (.mv (.tmp 6)), none⟩]) (.kill [1, 3, 4, 5, 6]))
  .ret))
theorem cf_impl_Link_isCallLink : chkFn Tryd.prog i_impl_Link_isCallLink ac_impl_Link_isCallLink [.tmp 2] 7 = true := by decide +kernel
def fa_impl_Link_isCallLink : FnA := ⟨ac_impl_Link_isCallLink, [.tmp 2], 7, false, true, [], .any, none⟩

/-- The checked code of impl ProgramText. -/
def lb_impl_ProgramText_0 : AC := (.post (.seq (.reg [⟨(some 28), .op (.bin .lss (.tmp 27) (.tmp 26)), none⟩])
  (.seq (.cond (.tmp 28) (.ghost (.kill [28]) .skip)
  (.ghost (.kill [25, 26, 27, 28]) (.exit 2)))
  (.seq (.block 3 (.seq (.post (.reg [⟨(some 29), .op (.iaddrS (.tmp 25) (.tmp 27) 4), none⟩,
    ⟨(some 30), .op (.load 4 true (.tmp 29)), none⟩,
    ⟨(some 7), .op (.alloc (Value.agg #[Value.int .i64 0, Value.int .i64 0, Value.string ⟨#[]⟩, Value.int .i64 0])), none⟩,
    ⟨none, .op (.store 4 (.tmp 7) (.tmp 30)), none⟩]) (.kill [29, 30]))
  (.seq (.post (.draw [⟨0, ⟨(some 31), .op (.mv (.tmp 3)), none⟩, []⟩,
    ⟨1, ⟨(some 32), .op (.faddr (.tmp 7) 0), none⟩, []⟩,
    ⟨2, ⟨(some 33), .op (.load 1 false (.tmp 32)), none⟩, []⟩,
    ⟨6, ⟨(some 37), .op (.faddr (.tmp 7) 1), none⟩, []⟩,
    ⟨7, ⟨(some 38), .op (.load 1 false (.tmp 37)), none⟩, []⟩,
    ⟨11, ⟨(some 42), .op (.faddr (.tmp 7) 2), none⟩, []⟩,
    ⟨12, ⟨(some 43), .op (.load 1 false (.tmp 42)), none⟩, []⟩,
    ⟨3, ⟨(some 34), .call (.func i_impl_decimal) [(.tmp 33)], none⟩, [7, 12]⟩,
    ⟨4, ⟨(some 35), .op (.bin .add (.const (Value.string ⟨#[108, 105, 110, 107, 32]⟩)) (.tmp 34)), none⟩, []⟩,
    ⟨5, ⟨(some 36), .op (.bin .add (.tmp 35) (.const (Value.string ⟨#[32]⟩))), none⟩, []⟩,
    ⟨8, ⟨(some 39), .call (.func i_impl_decimal) [(.tmp 38)], none⟩, [12]⟩,
    ⟨9, ⟨(some 40), .op (.bin .add (.tmp 36) (.tmp 39)), none⟩, []⟩,
    ⟨10, ⟨(some 41), .op (.bin .add (.tmp 40) (.const (Value.string ⟨#[32]⟩))), none⟩, []⟩,
    ⟨13, ⟨(some 44), .op (.bin .add (.tmp 41) (.tmp 43)), none⟩, []⟩,
    ⟨14, ⟨(some 45), .op (.bin .add (.tmp 31) (.tmp 44)), none⟩, []⟩,
    ⟨15, ⟨(some 3), .op (.mv (.tmp 45)), none⟩, []⟩]
    [0, 0, 2, 6, 14, 30, 0, 64, 206, 510, 1022, 0, 2048, 8190, 16383, 32767]) (.kill [31, 32, 33, 34, 35, 36, 37, 38, 39, 40, 41, 42, 43, 44, 45]))
  (.seq (.seq (.post (.reg [⟨(some 46), .op (.load 4 true (.tmp 7)), none⟩,
    ⟨(some 47), .call (.func i_impl_Link_isCallLink) [(.tmp 46)], none⟩]) (.kill [46]))
  (.cond (.tmp 47) (.ghost (.kill [47]) (.post (.reg [⟨(some 48), .op (.mv (.tmp 3)), none⟩,
    ⟨(some 49), .op (.faddr (.tmp 7) 3), none⟩,
    ⟨(some 50), .op (.load 1 false (.tmp 49)), none⟩,
    ⟨(some 51), .call (.func i_impl_decimal) [(.tmp 50)], none⟩,
    ⟨(some 52), .op (.bin .add (.const (Value.string ⟨#[32]⟩)) (.tmp 51)), none⟩,
    ⟨(some 53), .op (.bin .add (.tmp 48) (.tmp 52)), none⟩,
    ⟨(some 3), .op (.mv (.tmp 53)), none⟩]) (.kill [7, 48, 49, 50, 51, 52, 53])))
  (.ghost (.kill [7, 47]) .skip)))
  (.post (.reg [⟨(some 54), .op (.mv (.tmp 3)), none⟩,
    ⟨(some 55), .op (.bin .add (.tmp 54) (.const (Value.string ⟨#[10]⟩))), none⟩,
    ⟨(some 3), .op (.mv (.tmp 55)), none⟩]) (.kill [54, 55]))))))
  (.post (.reg [⟨(some 56), .op (.bin .add (.tmp 27) (.const (Value.int .i64 1))), none⟩,
    ⟨(some 27), .op (.mv (.tmp 56)), none⟩]) (.kill [56]))))) .nv)
def lo_impl_ProgramText_0 : AC := (.loop lb_impl_ProgramText_0)
def lb_impl_ProgramText_1 : AC := (.post (.seq (.reg [⟨(some 15), .op (.bin .lss (.tmp 14) (.tmp 13)), none⟩])
  (.seq (.cond (.tmp 15) (.ghost (.kill [15]) .skip)
  (.ghost (.kill [12, 13, 14, 15]) (.exit 0)))
  (.seq (.block 1 (.seq (.post (.reg [⟨(some 16), .op (.iaddrS (.tmp 12) (.tmp 14) 2), none⟩,
    ⟨(some 17), .op (.load 2 true (.tmp 16)), none⟩,
    ⟨(some 5), .op (.alloc (Value.agg #[Value.int .i64 0, Value.slice none 0 0])), none⟩,
    ⟨none, .op (.store 2 (.tmp 5) (.tmp 17)), none⟩]) (.kill [16, 17]))
  (.seq (.post (.reg [⟨(some 18), .op (.mv (.tmp 3)), none⟩,
    ⟨(some 19), .op (.faddr (.tmp 5) 0), none⟩,
    ⟨(some 20), .op (.load 1 false (.tmp 19)), none⟩,
    ⟨(some 21), .op (.lits true 1 1 (Value.int .i64 0) [(0, (.tmp 20))]), none⟩,
    ⟨(some 22), .call (.func i_impl_words) [(.const (Value.string ⟨#[109, 111, 100, 117, 108, 101]⟩)), (.tmp 21)], none⟩,
    ⟨(some 23), .op (.bin .add (.tmp 18) (.tmp 22)), none⟩,
    ⟨(some 3), .op (.mv (.tmp 23)), none⟩]) (.kill [18, 19, 20, 21, 22, 23]))
  (.seq (.post (.reg [⟨(some 24), .op (.faddr (.tmp 5) 1), none⟩,
    ⟨(some 25), .op (.load 1 false (.tmp 24)), none⟩,
    ⟨(some 26), .op (.len false (.tmp 25)), none⟩,
    ⟨(some 27), .op (.mv (.const (Value.int .i64 0))), none⟩]) (.kill [5, 24]))
  (.post (.block 2 (.ghost .nv lo_impl_ProgramText_0)) .nv)))))
  (.ghost (.kill [25, 26, 27]) (.post (.reg [⟨(some 57), .op (.bin .add (.tmp 14) (.const (Value.int .i64 1))), none⟩,
    ⟨(some 14), .op (.mv (.tmp 57)), none⟩]) (.kill [57])))))) .nv)
def lo_impl_ProgramText_1 : AC := (.loop lb_impl_ProgramText_1)
def ac_impl_ProgramText : AC := (.seq (.post (.reg [⟨(some 1), .op (.box true (.tmp 0)), none⟩,
    ⟨(some 2), .op (.mv (.const (Value.string ⟨#[]⟩))), none⟩]) (.kill [0, 2]))
  (.seq (.seq (.post (.reg [⟨(some 8), .op (.load 1 true (.tmp 1)), none⟩,
    ⟨(some 9), .call (.func i_impl_ValidProgram) [(.tmp 8)], none⟩,
    ⟨(some 10), .op (.un .not (.tmp 9)), none⟩]) (.kill [8, 9]))
  (.cond (.tmp 10) (.ghost (.kill [1, 10]) (.seq (.reg [⟨(some 2), .op (.mv (.const (Value.string ⟨#[]⟩))), none⟩])
  .ret))
  (.ghost (.kill [10]) .skip)))
  (.seq (.reg [⟨(some 3), .op (.mv (.const (Value.string ⟨#[]⟩))), none⟩])
  (.seq (.seq (.post (.reg [⟨(some 11), .op (.faddr (.tmp 1) 0), none⟩,
    ⟨(some 12), .op (.load 1 false (.tmp 11)), none⟩,
    ⟨(some 13), .op (.len false (.tmp 12)), none⟩,
    ⟨(some 14), .op (.mv (.const (Value.int .i64 0))), none⟩]) (.kill [1, 11]))
  (.post (.block 0 (.ghost .nv lo_impl_ProgramText_1)) .nv))
  (.ghost (.kill [12, 13, 14]) (.seq (.post (.reg [⟨(some 58), .op (.mv (.tmp 3)), none⟩,
    ⟨(some 2), .op (.mv (.tmp 58)), none⟩]) (.kill [3, 58]))
  .ret))))))
theorem cf_impl_ProgramText : chkFn Tryd.prog i_impl_ProgramText ac_impl_ProgramText [.tmp 2] 59 = true := by decide +kernel
def fa_impl_ProgramText : FnA := ⟨ac_impl_ProgramText, [.tmp 2], 59, false, true, [], .any, none⟩

/-- The checked code of laws eqLink. -/
def ac_laws_eqLink : AC := (.seq (.post (.reg [⟨(some 2), .op (.box true (.tmp 0)), none⟩,
    ⟨(some 3), .op (.box true (.tmp 1)), none⟩,
    ⟨(some 4), .op (.mv (.const (Value.bool false))), none⟩]) (.kill [0, 1, 4]))
  (.seq (.seq (.post (.reg [⟨(some 5), .op (.faddr (.tmp 2) 0), none⟩,
    ⟨(some 6), .op (.load 1 false (.tmp 5)), none⟩,
    ⟨(some 7), .op (.faddr (.tmp 3) 0), none⟩,
    ⟨(some 8), .op (.load 1 false (.tmp 7)), none⟩,
    ⟨(some 9), .op (.bin .neq (.tmp 6) (.tmp 8)), none⟩]) (.kill [5, 6, 7, 8]))
  (.cond (.tmp 9) (.ghost (.kill [2, 3, 9]) (.seq (.reg [⟨(some 4), .op (.mv (.const (Value.bool false))), none⟩])
  .ret))
  (.ghost (.kill [9]) .skip)))
  (.seq (.seq (.post (.reg [⟨(some 10), .op (.faddr (.tmp 2) 1), none⟩,
    ⟨(some 11), .op (.load 1 false (.tmp 10)), none⟩,
    ⟨(some 12), .op (.faddr (.tmp 3) 1), none⟩,
    ⟨(some 13), .op (.load 1 false (.tmp 12)), none⟩,
    ⟨(some 14), .op (.bin .neq (.tmp 11) (.tmp 13)), none⟩]) (.kill [10, 11, 12, 13]))
  (.cond (.tmp 14) (.ghost (.kill [2, 3, 14]) (.seq (.reg [⟨(some 4), .op (.mv (.const (Value.bool false))), none⟩])
  .ret))
  (.ghost (.kill [14]) .skip)))
  (.seq (.seq (.post (.reg [⟨(some 15), .op (.faddr (.tmp 2) 2), none⟩,
    ⟨(some 16), .op (.load 1 false (.tmp 15)), none⟩,
    ⟨(some 17), .op (.faddr (.tmp 3) 2), none⟩,
    ⟨(some 18), .op (.load 1 false (.tmp 17)), none⟩,
    ⟨(some 19), .op (.bin .neq (.tmp 16) (.tmp 18)), none⟩]) (.kill [15, 16, 17, 18]))
  (.cond (.tmp 19) (.ghost (.kill [2, 3, 19]) (.seq (.reg [⟨(some 4), .op (.mv (.const (Value.bool false))), none⟩])
  .ret))
  (.ghost (.kill [19]) .skip)))
  (.seq (.seq (.post (.reg [⟨(some 20), .op (.faddr (.tmp 2) 3), none⟩,
    ⟨(some 21), .op (.load 1 false (.tmp 20)), none⟩,
    ⟨(some 22), .op (.faddr (.tmp 3) 3), none⟩,
    ⟨(some 23), .op (.load 1 false (.tmp 22)), none⟩,
    ⟨(some 24), .op (.bin .neq (.tmp 21) (.tmp 23)), none⟩]) (.kill [2, 3, 20, 21, 22, 23]))
  (.cond (.tmp 24) (.ghost (.kill [24]) (.seq (.reg [⟨(some 4), .op (.mv (.const (Value.bool false))), none⟩])
  .ret))
  (.ghost (.kill [24]) .skip)))
  (.seq (.reg [⟨(some 4), .op (.mv (.const (Value.bool true))), none⟩])
  .ret))))))
theorem cf_laws_eqLink : chkFn Tryd.prog i_laws_eqLink ac_laws_eqLink [.tmp 4] 25 = true := by decide +kernel
def fa_laws_eqLink : FnA := ⟨ac_laws_eqLink, [.tmp 4], 25, false, true, [], .any, none⟩

/-- The checked code of laws eqLinkS. -/
def lb_laws_eqLinkS_0 : AC := (.seq (.seq (.post (.reg [⟨(some 11), .op (.mv (.tmp 5)), none⟩,
    ⟨(some 12), .op (.mv (.tmp 0)), none⟩,
    ⟨(some 13), .op (.len false (.tmp 12)), none⟩,
    ⟨(some 14), .op (.bin .lss (.tmp 11) (.tmp 13)), none⟩]) (.kill [11, 12, 13]))
  (.cond (.tmp 14) (.ghost (.kill [14]) .skip)
  (.ghost (.kill [0, 1, 5, 14]) (.exit 0))))
  (.seq (.block 1 (.seq (.post (.draw [⟨0, ⟨(some 17), .op (.mv (.tmp 0)), none⟩, []⟩,
    ⟨1, ⟨(some 18), .op (.mv (.tmp 5)), none⟩, []⟩,
    ⟨2, ⟨(some 19), .op (.iaddrS (.tmp 17) (.tmp 18) 4), none⟩, []⟩,
    ⟨3, ⟨(some 20), .op (.load 4 true (.tmp 19)), none⟩, []⟩,
    ⟨4, ⟨(some 21), .op (.mv (.tmp 1)), none⟩, []⟩,
    ⟨5, ⟨(some 22), .op (.mv (.tmp 5)), none⟩, []⟩,
    ⟨6, ⟨(some 23), .op (.iaddrS (.tmp 21) (.tmp 22) 4), none⟩, []⟩,
    ⟨7, ⟨(some 24), .op (.load 4 true (.tmp 23)), none⟩, []⟩,
    ⟨8, ⟨(some 25), .call (.func i_laws_eqLink) [(.tmp 20), (.tmp 24)], none⟩, []⟩,
    ⟨9, ⟨(some 26), .op (.un .not (.tmp 25)), none⟩, []⟩]
    [0, 0, 3, 7, 0, 0, 48, 112, 255, 511]) (.kill [17, 18, 19, 20, 21, 22, 23, 24, 25]))
  (.cond (.tmp 26) (.ghost (.kill [0, 1, 5, 26]) (.seq (.reg [⟨(some 4), .op (.mv (.const (Value.bool false))), none⟩])
  .ret))
  (.ghost (.kill [26]) .skip))))
  (.post (.reg [⟨(some 15), .op (.mv (.tmp 5)), none⟩,
    ⟨(some 16), .op (.bin .add (.tmp 15) (.const (Value.int .i64 1))), none⟩,
    ⟨(some 5), .op (.mv (.tmp 16)), none⟩]) (.kill [15, 16]))))
def lo_laws_eqLinkS_0 : AC := (.loop lb_laws_eqLinkS_0)
def ac_laws_eqLinkS : AC := (.seq (.post (.reg [⟨(some 4), .op (.mv (.const (Value.bool false))), none⟩]) (.kill [4]))
  (.seq (.seq (.post (.reg [⟨(some 6), .op (.mv (.tmp 0)), none⟩,
    ⟨(some 7), .op (.len false (.tmp 6)), none⟩,
    ⟨(some 8), .op (.mv (.tmp 1)), none⟩,
    ⟨(some 9), .op (.len false (.tmp 8)), none⟩,
    ⟨(some 10), .op (.bin .neq (.tmp 7) (.tmp 9)), none⟩]) (.kill [6, 7, 8, 9]))
  (.cond (.tmp 10) (.ghost (.kill [0, 1, 10]) (.seq (.reg [⟨(some 4), .op (.mv (.const (Value.bool false))), none⟩])
  .ret))
  (.ghost (.kill [10]) .skip)))
  (.seq (.seq (.reg [⟨(some 5), .op (.mv (.const (Value.int .i64 0))), none⟩])
  (.block 0 lo_laws_eqLinkS_0))
  (.ghost (.kill [0, 1, 5]) (.seq (.reg [⟨(some 4), .op (.mv (.const (Value.bool true))), none⟩])
  .ret)))))
theorem cf_laws_eqLinkS : chkFn Tryd.prog i_laws_eqLinkS ac_laws_eqLinkS [.tmp 4] 27 = true := by decide +kernel
def fa_laws_eqLinkS : FnA := ⟨ac_laws_eqLinkS, [.tmp 4], 27, false, true, [], .any, none⟩

/-- The checked code of laws eqModule. -/
def ac_laws_eqModule : AC := (.seq (.post (.reg [⟨(some 2), .op (.box true (.tmp 0)), none⟩,
    ⟨(some 3), .op (.box true (.tmp 1)), none⟩,
    ⟨(some 4), .op (.mv (.const (Value.bool false))), none⟩]) (.kill [0, 1, 4]))
  (.seq (.seq (.post (.reg [⟨(some 5), .op (.faddr (.tmp 2) 0), none⟩,
    ⟨(some 6), .op (.load 1 false (.tmp 5)), none⟩,
    ⟨(some 7), .op (.faddr (.tmp 3) 0), none⟩,
    ⟨(some 8), .op (.load 1 false (.tmp 7)), none⟩,
    ⟨(some 9), .op (.bin .neq (.tmp 6) (.tmp 8)), none⟩]) (.kill [5, 6, 7, 8]))
  (.cond (.tmp 9) (.ghost (.kill [2, 3, 9]) (.seq (.reg [⟨(some 4), .op (.mv (.const (Value.bool false))), none⟩])
  .ret))
  (.ghost (.kill [9]) .skip)))
  (.seq (.seq (.post (.reg [⟨(some 10), .op (.faddr (.tmp 2) 1), none⟩,
    ⟨(some 11), .op (.load 1 false (.tmp 10)), none⟩,
    ⟨(some 12), .op (.faddr (.tmp 3) 1), none⟩,
    ⟨(some 13), .op (.load 1 false (.tmp 12)), none⟩,
    ⟨(some 14), .call (.func i_laws_eqLinkS) [(.tmp 11), (.tmp 13)], none⟩,
    ⟨(some 15), .op (.un .not (.tmp 14)), none⟩]) (.kill [2, 3, 10, 11, 12, 13, 14]))
  (.cond (.tmp 15) (.ghost (.kill [15]) (.seq (.reg [⟨(some 4), .op (.mv (.const (Value.bool false))), none⟩])
  .ret))
  (.ghost (.kill [15]) .skip)))
  (.seq (.reg [⟨(some 4), .op (.mv (.const (Value.bool true))), none⟩])
  .ret))))
theorem cf_laws_eqModule : chkFn Tryd.prog i_laws_eqModule ac_laws_eqModule [.tmp 4] 16 = true := by decide +kernel
def fa_laws_eqModule : FnA := ⟨ac_laws_eqModule, [.tmp 4], 16, false, true, [], .any, none⟩

/-- The checked code of laws eqModuleS. -/
def lb_laws_eqModuleS_0 : AC := (.seq (.seq (.post (.reg [⟨(some 11), .op (.mv (.tmp 5)), none⟩,
    ⟨(some 12), .op (.mv (.tmp 0)), none⟩,
    ⟨(some 13), .op (.len false (.tmp 12)), none⟩,
    ⟨(some 14), .op (.bin .lss (.tmp 11) (.tmp 13)), none⟩]) (.kill [11, 12, 13]))
  (.cond (.tmp 14) (.ghost (.kill [14]) .skip)
  (.ghost (.kill [0, 1, 5, 14]) (.exit 0))))
  (.seq (.block 1 (.seq (.post (.draw [⟨0, ⟨(some 17), .op (.mv (.tmp 0)), none⟩, []⟩,
    ⟨1, ⟨(some 18), .op (.mv (.tmp 5)), none⟩, []⟩,
    ⟨2, ⟨(some 19), .op (.iaddrS (.tmp 17) (.tmp 18) 2), none⟩, []⟩,
    ⟨3, ⟨(some 20), .op (.load 2 true (.tmp 19)), none⟩, []⟩,
    ⟨4, ⟨(some 21), .op (.mv (.tmp 1)), none⟩, []⟩,
    ⟨5, ⟨(some 22), .op (.mv (.tmp 5)), none⟩, []⟩,
    ⟨6, ⟨(some 23), .op (.iaddrS (.tmp 21) (.tmp 22) 2), none⟩, []⟩,
    ⟨7, ⟨(some 24), .op (.load 2 true (.tmp 23)), none⟩, []⟩,
    ⟨8, ⟨(some 25), .call (.func i_laws_eqModule) [(.tmp 20), (.tmp 24)], none⟩, []⟩,
    ⟨9, ⟨(some 26), .op (.un .not (.tmp 25)), none⟩, []⟩]
    [0, 0, 3, 7, 0, 0, 48, 112, 255, 511]) (.kill [17, 18, 19, 20, 21, 22, 23, 24, 25]))
  (.cond (.tmp 26) (.ghost (.kill [0, 1, 5, 26]) (.seq (.reg [⟨(some 4), .op (.mv (.const (Value.bool false))), none⟩])
  .ret))
  (.ghost (.kill [26]) .skip))))
  (.post (.reg [⟨(some 15), .op (.mv (.tmp 5)), none⟩,
    ⟨(some 16), .op (.bin .add (.tmp 15) (.const (Value.int .i64 1))), none⟩,
    ⟨(some 5), .op (.mv (.tmp 16)), none⟩]) (.kill [15, 16]))))
def lo_laws_eqModuleS_0 : AC := (.loop lb_laws_eqModuleS_0)
def ac_laws_eqModuleS : AC := (.seq (.post (.reg [⟨(some 4), .op (.mv (.const (Value.bool false))), none⟩]) (.kill [4]))
  (.seq (.seq (.post (.reg [⟨(some 6), .op (.mv (.tmp 0)), none⟩,
    ⟨(some 7), .op (.len false (.tmp 6)), none⟩,
    ⟨(some 8), .op (.mv (.tmp 1)), none⟩,
    ⟨(some 9), .op (.len false (.tmp 8)), none⟩,
    ⟨(some 10), .op (.bin .neq (.tmp 7) (.tmp 9)), none⟩]) (.kill [6, 7, 8, 9]))
  (.cond (.tmp 10) (.ghost (.kill [0, 1, 10]) (.seq (.reg [⟨(some 4), .op (.mv (.const (Value.bool false))), none⟩])
  .ret))
  (.ghost (.kill [10]) .skip)))
  (.seq (.seq (.reg [⟨(some 5), .op (.mv (.const (Value.int .i64 0))), none⟩])
  (.block 0 lo_laws_eqModuleS_0))
  (.ghost (.kill [0, 1, 5]) (.seq (.reg [⟨(some 4), .op (.mv (.const (Value.bool true))), none⟩])
  .ret)))))
theorem cf_laws_eqModuleS : chkFn Tryd.prog i_laws_eqModuleS ac_laws_eqModuleS [.tmp 4] 27 = true := by decide +kernel
def fa_laws_eqModuleS : FnA := ⟨ac_laws_eqModuleS, [.tmp 4], 27, false, true, [], .any, none⟩

/-- The checked code of laws eqProgram. -/
def ac_laws_eqProgram : AC := (.seq (.post (.reg [⟨(some 2), .op (.box true (.tmp 0)), none⟩,
    ⟨(some 3), .op (.box true (.tmp 1)), none⟩,
    ⟨(some 4), .op (.mv (.const (Value.bool false))), none⟩]) (.kill [0, 1, 4]))
  (.seq (.seq (.post (.reg [⟨(some 5), .op (.faddr (.tmp 2) 0), none⟩,
    ⟨(some 6), .op (.load 1 false (.tmp 5)), none⟩,
    ⟨(some 7), .op (.faddr (.tmp 3) 0), none⟩,
    ⟨(some 8), .op (.load 1 false (.tmp 7)), none⟩,
    ⟨(some 9), .call (.func i_laws_eqModuleS) [(.tmp 6), (.tmp 8)], none⟩,
    ⟨(some 10), .op (.un .not (.tmp 9)), none⟩]) (.kill [2, 3, 5, 6, 7, 8, 9]))
  (.cond (.tmp 10) (.ghost (.kill [10]) (.seq (.reg [⟨(some 4), .op (.mv (.const (Value.bool false))), none⟩])
  .ret))
  (.ghost (.kill [10]) .skip)))
  (.seq (.reg [⟨(some 4), .op (.mv (.const (Value.bool true))), none⟩])
  .ret)))
theorem cf_laws_eqProgram : chkFn Tryd.prog i_laws_eqProgram ac_laws_eqProgram [.tmp 4] 11 = true := by decide +kernel
def fa_laws_eqProgram : FnA := ⟨ac_laws_eqProgram, [.tmp 4], 11, false, true, [], .any, none⟩

/-- The checked code of laws FnExactProgramText. -/
def ac_laws_FnExactProgramText : AC := (.seq (.post (.reg [⟨(some 1), .op (.box true (.tmp 0)), none⟩,
    ⟨(some 2), .op (.mv (.const (Value.bool false))), none⟩]) (.kill [0, 2]))
  (.seq (.reg [⟨(some 3), .op (.mv (.const (Value.int .i64 1048576))), none⟩])
  (.seq (.post (.reg [⟨(some 7), .op (.load 1 true (.tmp 1)), none⟩,
    ⟨(some 8), .op (.mv (.tmp 3)), none⟩,
    ⟨(some 9), .call (.func i_laws_szProgram) [(.tmp 7), (.tmp 8)], none⟩,
    ⟨(some 3), .op (.mv (.tmp 9)), none⟩]) (.kill [7, 8, 9]))
  (.seq (.seq (.post (.reg [⟨(some 10), .op (.mv (.tmp 3)), none⟩,
    ⟨(some 11), .op (.bin .lss (.tmp 10) (.const (Value.int .i64 0))), none⟩]) (.kill [3, 10]))
  (.cond (.tmp 11) (.ghost (.kill [1, 11]) (.seq (.reg [⟨(some 2), .op (.mv (.const (Value.bool true))), none⟩])
  .ret))
  (.ghost (.kill [11]) .skip)))
  (.seq (.post (.reg [⟨(some 12), .op (.load 1 true (.tmp 1)), none⟩,
    ⟨(some 13), .call (.func i_laws_toProgram) [(.tmp 12)], none⟩,
    ⟨(some 14), .call (.func i_spec_ProgramText) [(.tmp 13)], none⟩,
    ⟨(some 4), .op (.mv (.tmp 14)), none⟩]) (.kill [12, 13, 14]))
  (.seq (.post (.reg [⟨(some 15), .op (.load 1 true (.tmp 1)), none⟩,
    ⟨(some 16), .call (.func i_laws_toProgram) [(.tmp 15)], none⟩,
    ⟨(some 5), .op (.alloc (Value.agg #[Value.slice none 0 0])), none⟩,
    ⟨none, .op (.store 1 (.tmp 5) (.tmp 16)), none⟩]) (.kill [15, 16]))
  (.seq (.post (.reg [⟨(some 17), .op (.load 1 true (.tmp 5)), none⟩,
    ⟨(some 18), .call (.func i_impl_ProgramText) [(.tmp 17)], none⟩,
    ⟨(some 6), .op (.mv (.tmp 18)), none⟩]) (.kill [17, 18]))
  (.seq (.seq (.post (.reg [⟨(some 19), .op (.mv (.tmp 6)), none⟩,
    ⟨(some 20), .op (.mv (.tmp 4)), none⟩,
    ⟨(some 21), .op (.bin .neq (.tmp 19) (.tmp 20)), none⟩]) (.kill [4, 6, 19, 20]))
  (.cond (.tmp 21) (.ghost (.kill [1, 5, 21]) (.seq (.reg [⟨(some 2), .op (.mv (.const (Value.bool false))), none⟩])
  .ret))
  (.ghost (.kill [21]) .skip)))
  (.seq (.seq (.post (.draw [⟨0, ⟨(some 22), .op (.load 1 true (.tmp 5)), none⟩, []⟩,
    ⟨1, ⟨(some 23), .op (.load 1 true (.tmp 1)), none⟩, []⟩,
    ⟨2, ⟨(some 24), .call (.func i_laws_toProgram) [(.tmp 23)], none⟩, [0]⟩,
    ⟨3, ⟨(some 25), .call (.func i_laws_eqProgram) [(.tmp 22), (.tmp 24)], none⟩, []⟩,
    ⟨4, ⟨(some 26), .op (.un .not (.tmp 25)), none⟩, []⟩]
    [0, 0, 2, 7, 15]) (.kill [1, 5, 22, 23, 24, 25]))
  (.cond (.tmp 26) (.ghost (.kill [26]) (.seq (.reg [⟨(some 2), .op (.mv (.const (Value.bool false))), none⟩])
  .ret))
  (.ghost (.kill [26]) .skip)))
  (.seq (.reg [⟨(some 2), .op (.mv (.const (Value.bool true))), none⟩])
  .ret))))))))))
theorem cf_laws_FnExactProgramText : chkFn Tryd.prog i_laws_FnExactProgramText ac_laws_FnExactProgramText [.tmp 2] 27 = true := by decide +kernel
def fa_laws_FnExactProgramText : FnA := ⟨ac_laws_FnExactProgramText, [.tmp 2], 27, false, true, [], .any, none⟩

end Go.Proofs.YtipmgemnjcjobaaDoor
