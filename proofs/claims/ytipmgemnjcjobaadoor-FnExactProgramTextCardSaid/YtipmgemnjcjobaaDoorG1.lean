/- The code of the functions, checked against the loaded program; printed by a program (gen2.py). -/
import Derived.Test.YtipmgemnjcjobaaDoorProg
import Derived.Test.YtipmgemnjcjobaaDoorAw25
import Derived.Test.YtipmgemnjcjobaaDoorG0
set_option linter.unusedVariables false
set_option maxRecDepth 100000
namespace Go.Proofs.YtipmgemnjcjobaaDoor
open Aw

/-- The checked code of impl ValidChecker. -/
def lb_impl_ValidChecker_0 : AC := (.post (.seq (.reg [⟨(some 80), .op (.bin .lss (.tmp 79) (.const (Value.int .i64 2))), none⟩])
  (.seq (.cond (.tmp 80) (.ghost (.kill [80]) .skip)
  (.ghost (.kill [5, 79, 80]) (.exit 2)))
  (.seq (.block 3 (.seq (.post (.reg [⟨(some 81), .op (.mv (.tmp 79)), none⟩,
    ⟨(some 6), .op (.mv (.tmp 81)), none⟩]) (.kill [81]))
  (.seq (.post (.reg [⟨(some 82), .op (.faddr (.tmp 1) 3), none⟩,
    ⟨(some 83), .op (.load 1 false (.tmp 82)), none⟩,
    ⟨(some 84), .op (.mv (.tmp 5)), none⟩,
    ⟨(some 85), .op (.iaddrS (.tmp 83) (.tmp 84) 1), none⟩,
    ⟨(some 86), .op (.load 1 false (.tmp 85)), none⟩,
    ⟨(some 87), .op (.mv (.tmp 6)), none⟩,
    ⟨(some 88), .op (.iaddrS (.tmp 86) (.tmp 87) 2), none⟩,
    ⟨(some 89), .op (.load 2 true (.tmp 88)), none⟩,
    ⟨(some 7), .op (.alloc (Value.agg #[Value.int .i64 0, Value.int .i64 0])), none⟩,
    ⟨none, .op (.store 2 (.tmp 7) (.tmp 89)), none⟩]) (.kill [82, 83, 84, 85, 86, 87, 88, 89]))
  (.seq (.post (.draw [⟨0, ⟨(some 90), .op (.load 6 true (.tmp 1)), none⟩, []⟩,
    ⟨1, ⟨(some 91), .op (.faddr (.tmp 7) 0), none⟩, []⟩,
    ⟨2, ⟨(some 92), .op (.load 1 false (.tmp 91)), none⟩, []⟩,
    ⟨3, ⟨(some 93), .call (.func i_impl_Checker_isState) [(.tmp 90), (.tmp 92)], none⟩, []⟩,
    ⟨4, ⟨(some 94), .op (.un .not (.tmp 93)), none⟩, []⟩,
    ⟨5, ⟨(some 95), .op (.mv (.tmp 94)), none⟩, []⟩,
    ⟨6, ⟨(some 96), .op (.load 6 true (.tmp 1)), some (95, false)⟩, []⟩,
    ⟨7, ⟨(some 97), .op (.faddr (.tmp 7) 1), some (95, false)⟩, []⟩,
    ⟨8, ⟨(some 98), .op (.load 1 false (.tmp 97)), some (95, false)⟩, []⟩,
    ⟨9, ⟨(some 99), .call (.func i_impl_Checker_isMark) [(.tmp 96), (.tmp 98)], some (95, false)⟩, []⟩,
    ⟨10, ⟨(some 100), .op (.un .not (.tmp 99)), some (95, false)⟩, []⟩,
    ⟨11, ⟨(some 101), .op (.pick (.tmp 95) (.const (Value.bool true)) (.tmp 100)), none⟩, []⟩,
    ⟨12, ⟨(some 102), .op (.mv (.tmp 101)), none⟩, []⟩,
    ⟨13, ⟨(some 103), .op (.mv (.tmp 4)), some (102, false)⟩, []⟩,
    ⟨14, ⟨(some 104), .op (.faddr (.tmp 1) 4), some (102, false)⟩, []⟩,
    ⟨15, ⟨(some 105), .op (.load 1 false (.tmp 104)), some (102, false)⟩, []⟩,
    ⟨16, ⟨(some 106), .op (.mv (.tmp 5)), some (102, false)⟩, []⟩,
    ⟨17, ⟨(some 107), .op (.iaddrS (.tmp 105) (.tmp 106) 1), some (102, false)⟩, []⟩,
    ⟨18, ⟨(some 108), .op (.load 1 false (.tmp 107)), some (102, false)⟩, []⟩,
    ⟨19, ⟨(some 109), .op (.mv (.tmp 6)), some (102, false)⟩, []⟩,
    ⟨20, ⟨(some 110), .op (.iaddrS (.tmp 108) (.tmp 109) 1), some (102, false)⟩, []⟩,
    ⟨21, ⟨(some 111), .op (.load 1 false (.tmp 110)), some (102, false)⟩, []⟩,
    ⟨22, ⟨(some 112), .op (.faddr (.tmp 1) 0), some (102, false)⟩, []⟩,
    ⟨23, ⟨(some 113), .op (.load 1 false (.tmp 112)), some (102, false)⟩, []⟩,
    ⟨24, ⟨(some 114), .op (.bin .add (.tmp 113) (.const (Value.int .i64 1))), some (102, false)⟩, []⟩,
    ⟨25, ⟨(some 115), .call (.tmp 103) [(.tmp 111), (.tmp 114)], some (102, false)⟩, []⟩,
    ⟨26, ⟨(some 116), .op (.un .not (.tmp 115)), some (102, false)⟩, []⟩,
    ⟨27, ⟨(some 117), .op (.pick (.tmp 102) (.const (Value.bool true)) (.tmp 116)), none⟩, []⟩]
    [0, 0, 2, 7, 15, 31, 63, 63, 191, 511, 1023, 2047, 4095, 8191, 8191, 24575, 8191, 122879, 253951, 8191, 1040383, 2088959, 8191, 4202495, 12591103, 33554431, 67108863, 134217727]) (.kill [6, 7, 90, 91, 92, 93, 94, 95, 96, 97, 98, 99, 100, 101, 102, 103, 104, 105, 106, 107, 108, 109, 110, 111, 112, 113, 114, 115, 116]))
  (.cond (.tmp 117) (.ghost (.kill [1, 4, 5, 49, 50, 79, 117]) (.seq (.reg [⟨(some 2), .op (.mv (.const (Value.bool false))), none⟩])
  .ret))
  (.ghost (.kill [117]) .skip))))))
  (.post (.reg [⟨(some 118), .op (.bin .add (.tmp 79) (.const (Value.int .i64 1))), none⟩,
    ⟨(some 79), .op (.mv (.tmp 118)), none⟩]) (.kill [118]))))) .nv)
def lo_impl_ValidChecker_0 : AC := (.loop lb_impl_ValidChecker_0)
def lb_impl_ValidChecker_1 : AC := (.post (.seq (.reg [⟨(some 51), .op (.bin .lss (.tmp 50) (.tmp 49)), none⟩])
  (.seq (.cond (.tmp 51) (.ghost (.kill [51]) .skip)
  (.ghost (.kill [1, 4, 49, 50, 51]) (.exit 0)))
  (.seq (.block 1 (.seq (.post (.reg [⟨(some 52), .op (.mv (.tmp 50)), none⟩,
    ⟨(some 5), .op (.mv (.tmp 52)), none⟩]) (.kill [52]))
  (.seq (.seq (.post (.reg [⟨(some 53), .op (.faddr (.tmp 1) 3), none⟩,
    ⟨(some 54), .op (.load 1 false (.tmp 53)), none⟩,
    ⟨(some 55), .op (.mv (.tmp 5)), none⟩,
    ⟨(some 56), .op (.iaddrS (.tmp 54) (.tmp 55) 1), none⟩,
    ⟨(some 57), .op (.load 1 false (.tmp 56)), none⟩,
    ⟨(some 58), .op (.len false (.tmp 57)), none⟩,
    ⟨(some 59), .op (.bin .neq (.tmp 58) (.const (Value.int .i64 2))), none⟩,
    ⟨(some 60), .op (.mv (.tmp 59)), none⟩,
    ⟨(some 61), .op (.faddr (.tmp 1) 4), some (60, false)⟩,
    ⟨(some 62), .op (.load 1 false (.tmp 61)), some (60, false)⟩,
    ⟨(some 63), .op (.mv (.tmp 5)), some (60, false)⟩,
    ⟨(some 64), .op (.iaddrS (.tmp 62) (.tmp 63) 1), some (60, false)⟩,
    ⟨(some 65), .op (.load 1 false (.tmp 64)), some (60, false)⟩,
    ⟨(some 66), .op (.len false (.tmp 65)), some (60, false)⟩,
    ⟨(some 67), .op (.bin .neq (.tmp 66) (.const (Value.int .i64 2))), some (60, false)⟩,
    ⟨(some 68), .op (.pick (.tmp 60) (.const (Value.bool true)) (.tmp 67)), none⟩,
    ⟨(some 69), .op (.mv (.tmp 68)), none⟩,
    ⟨(some 70), .op (.mv (.tmp 4)), some (69, false)⟩,
    ⟨(some 71), .op (.faddr (.tmp 1) 5), some (69, false)⟩,
    ⟨(some 72), .op (.load 1 false (.tmp 71)), some (69, false)⟩,
    ⟨(some 73), .op (.mv (.tmp 5)), some (69, false)⟩,
    ⟨(some 74), .op (.iaddrS (.tmp 72) (.tmp 73) 1), some (69, false)⟩,
    ⟨(some 75), .op (.load 1 false (.tmp 74)), some (69, false)⟩,
    ⟨(some 76), .call (.tmp 70) [(.tmp 75), (.const (Value.int .i64 2))], some (69, false)⟩,
    ⟨(some 77), .op (.un .not (.tmp 76)), some (69, false)⟩,
    ⟨(some 78), .op (.pick (.tmp 69) (.const (Value.bool true)) (.tmp 77)), none⟩]) (.kill [53, 54, 55, 56, 57, 58, 59, 60, 61, 62, 63, 64, 65, 66, 67, 68, 69, 70, 71, 72, 73, 74, 75, 76, 77]))
  (.cond (.tmp 78) (.ghost (.kill [1, 4, 5, 49, 50, 78]) (.seq (.reg [⟨(some 2), .op (.mv (.const (Value.bool false))), none⟩])
  .ret))
  (.ghost (.kill [78]) .skip)))
  (.seq (.reg [⟨(some 79), .op (.mv (.const (Value.int .i64 0))), none⟩])
  (.post (.block 2 (.ghost .nv lo_impl_ValidChecker_0)) .nv)))))
  (.ghost (.kill [5, 79]) (.post (.reg [⟨(some 119), .op (.bin .add (.tmp 50) (.const (Value.int .i64 1))), none⟩,
    ⟨(some 50), .op (.mv (.tmp 119)), none⟩]) (.kill [119])))))) .nv)
def lo_impl_ValidChecker_1 : AC := (.loop lb_impl_ValidChecker_1)
def ac_impl_ValidChecker : AC := (.seq (.post (.reg [⟨(some 1), .op (.box true (.tmp 0)), none⟩,
    ⟨(some 2), .op (.mv (.const (Value.bool false))), none⟩]) (.kill [0, 2]))
  (.seq (.post (.reg [⟨(some 8), .op (.faddr (.tmp 1) 2), none⟩,
    ⟨(some 9), .op (.load 1 false (.tmp 8)), none⟩,
    ⟨(some 10), .call (.func i_impl_size_bool) [(.tmp 9)], none⟩,
    ⟨(some 3), .op (.mv (.tmp 10)), none⟩]) (.kill [8, 9, 10]))
  (.seq (.seq (.post (.reg [⟨(some 11), .op (.mv (.tmp 3)), none⟩,
    ⟨(some 12), .call (.func i_impl_within) [(.tmp 11), (.const (Value.int .i64 1)), (.const (Value.int .i64 40))], none⟩,
    ⟨(some 13), .op (.un .not (.tmp 12)), none⟩,
    ⟨(some 14), .op (.mv (.tmp 13)), none⟩,
    ⟨(some 15), .op (.faddr (.tmp 1) 0), some (14, false)⟩,
    ⟨(some 16), .op (.load 1 false (.tmp 15)), some (14, false)⟩,
    ⟨(some 17), .call (.func i_impl_within) [(.tmp 16), (.const (Value.int .i64 1)), (.const (Value.int .i64 80))], some (14, false)⟩,
    ⟨(some 18), .op (.un .not (.tmp 17)), some (14, false)⟩,
    ⟨(some 19), .op (.pick (.tmp 14) (.const (Value.bool true)) (.tmp 18)), none⟩,
    ⟨(some 20), .op (.mv (.tmp 19)), none⟩,
    ⟨(some 21), .op (.load 6 true (.tmp 1)), some (20, false)⟩,
    ⟨(some 22), .op (.faddr (.tmp 1) 1), some (20, false)⟩,
    ⟨(some 23), .op (.load 1 false (.tmp 22)), some (20, false)⟩,
    ⟨(some 24), .call (.func i_impl_Checker_isState) [(.tmp 21), (.tmp 23)], some (20, false)⟩,
    ⟨(some 25), .op (.un .not (.tmp 24)), some (20, false)⟩,
    ⟨(some 26), .op (.pick (.tmp 20) (.const (Value.bool true)) (.tmp 25)), none⟩,
    ⟨(some 27), .op (.mv (.tmp 26)), none⟩,
    ⟨(some 28), .op (.faddr (.tmp 1) 3), some (27, false)⟩,
    ⟨(some 29), .op (.load 1 false (.tmp 28)), some (27, false)⟩,
    ⟨(some 30), .call (.func i_impl_size_L_impl_Push) [(.tmp 29)], some (27, false)⟩,
    ⟨(some 31), .op (.mv (.tmp 3)), some (27, false)⟩,
    ⟨(some 32), .op (.bin .neq (.tmp 30) (.tmp 31)), some (27, false)⟩,
    ⟨(some 33), .op (.pick (.tmp 27) (.const (Value.bool true)) (.tmp 32)), none⟩,
    ⟨(some 34), .op (.mv (.tmp 33)), none⟩,
    ⟨(some 35), .op (.faddr (.tmp 1) 4), some (34, false)⟩,
    ⟨(some 36), .op (.load 1 false (.tmp 35)), some (34, false)⟩,
    ⟨(some 37), .call (.func i_impl_size_L_L_int64) [(.tmp 36)], some (34, false)⟩,
    ⟨(some 38), .op (.mv (.tmp 3)), some (34, false)⟩,
    ⟨(some 39), .op (.bin .neq (.tmp 37) (.tmp 38)), some (34, false)⟩,
    ⟨(some 40), .op (.pick (.tmp 34) (.const (Value.bool true)) (.tmp 39)), none⟩,
    ⟨(some 41), .op (.mv (.tmp 40)), none⟩,
    ⟨(some 42), .op (.faddr (.tmp 1) 5), some (41, false)⟩,
    ⟨(some 43), .op (.load 1 false (.tmp 42)), some (41, false)⟩,
    ⟨(some 44), .call (.func i_impl_size_L_int64) [(.tmp 43)], some (41, false)⟩,
    ⟨(some 45), .op (.mv (.tmp 3)), some (41, false)⟩,
    ⟨(some 46), .op (.bin .neq (.tmp 44) (.tmp 45)), some (41, false)⟩,
    ⟨(some 47), .op (.pick (.tmp 41) (.const (Value.bool true)) (.tmp 46)), none⟩]) (.kill [11, 12, 13, 14, 15, 16, 17, 18, 19, 20, 21, 22, 23, 24, 25, 26, 27, 28, 29, 30, 31, 32, 33, 34, 35, 36, 37, 38, 39, 40, 41, 42, 43, 44, 45, 46]))
  (.cond (.tmp 47) (.ghost (.kill [1, 3, 47]) (.seq (.reg [⟨(some 2), .op (.mv (.const (Value.bool false))), none⟩])
  .ret))
  (.ghost (.kill [47]) .skip)))
  (.seq (.post (.reg [⟨(some 48), .op (.mkfn i_impl_ValidChecker_1 [(.tmp 1)]), none⟩,
    ⟨(some 4), .op (.mv (.tmp 48)), none⟩]) (.kill [48]))
  (.seq (.seq (.post (.reg [⟨(some 49), .op (.mv (.tmp 3)), none⟩,
    ⟨(some 50), .op (.mv (.const (Value.int .i64 0))), none⟩]) (.kill [3]))
  (.post (.block 0 (.ghost .nv lo_impl_ValidChecker_1)) .nv))
  (.ghost (.kill [1, 4, 49, 50]) (.seq (.reg [⟨(some 2), .op (.mv (.const (Value.bool true))), none⟩])
  .ret)))))))
theorem cf_impl_ValidChecker : chkFn Tryd.prog i_impl_ValidChecker ac_impl_ValidChecker [.tmp 2] 120 = true := by decide +kernel
def fa_impl_ValidChecker : FnA := ⟨ac_impl_ValidChecker, [.tmp 2], 120, false, true, [], .any, none⟩

/-- The checked code of impl yes. -/
def ac_impl_yes : AC := (.seq (.post (.reg [⟨(some 2), .op (.mv (.const (Value.string ⟨#[]⟩))), none⟩]) (.kill [2]))
  (.seq (.seq (.post (.reg [⟨(some 3), .op (.mv (.tmp 0)), none⟩]) (.kill [0]))
  (.cond (.tmp 3) (.ghost (.kill [3]) (.seq (.reg [⟨(some 2), .op (.mv (.const (Value.string ⟨#[121, 101, 115]⟩))), none⟩])
  .ret))
  (.ghost (.kill [3]) .skip)))
  (.seq (.reg [⟨(some 2), .op (.mv (.const (Value.string ⟨#[110, 111]⟩))), none⟩])
  .ret)))
theorem cf_impl_yes : chkFn Tryd.prog i_impl_yes ac_impl_yes [.tmp 2] 4 = true := by decide +kernel
def fa_impl_yes : FnA := ⟨ac_impl_yes, [.tmp 2], 4, false, true, [], .any, none⟩

/-- The checked code of slices Grow   int64 int64 . -/
def ac_slices_Grow_L_int64 : AC := (.seq (.post (.reg [⟨(some 4), .op (.mv (.const (Value.slice none 0 0))), none⟩]) (.kill [4]))
  (.seq (.seq (.post (.reg [⟨(some 5), .op (.mv (.tmp 1)), none⟩,
    ⟨(some 6), .op (.bin .lss (.tmp 5) (.const (Value.int .i64 0))), none⟩]) (.kill [5]))
  (.cond (.tmp 6) (.ghost (.kill [6]) (.post (.reg [⟨(some 7), .op (.bad), none⟩,
    ⟨none, .op (.bad), none⟩]) (.kill [7])))
  (.ghost (.kill [6]) .skip)))
  (.seq (.seq (.post (.reg [⟨(some 8), .op (.mv (.tmp 1)), none⟩,
    ⟨(some 9), .op (.mv (.tmp 0)), none⟩,
    ⟨(some 10), .op (.cap (.tmp 9)), none⟩,
    ⟨(some 11), .op (.mv (.tmp 0)), none⟩,
    ⟨(some 12), .op (.len false (.tmp 11)), none⟩,
    ⟨(some 13), .op (.bin .sub (.tmp 10) (.tmp 12)), none⟩,
    ⟨(some 14), .op (.bin .sub (.tmp 8) (.tmp 13)), none⟩,
    ⟨(some 1), .op (.mv (.tmp 14)), none⟩]) (.kill [8, 9, 10, 11, 12, 13, 14]))
  (.seq (.post (.reg [⟨(some 15), .op (.mv (.tmp 1)), none⟩,
    ⟨(some 16), .op (.bin .gtr (.tmp 15) (.const (Value.int .i64 0))), none⟩]) (.kill [15]))
  (.cond (.tmp 16) (.ghost (.kill [16]) (.post (.post (.reg [⟨(some 17), .op (.mv (.tmp 0)), none⟩,
    ⟨(some 18), .op (.mv (.tmp 0)), none⟩,
    ⟨(some 19), .op (.cap (.tmp 18)), none⟩,
    ⟨(some 20), .op (.slcS (.tmp 17) none (some (.tmp 19)) none 1), none⟩,
    ⟨(some 21), .op (.mv (.tmp 1)), none⟩,
    ⟨(some 22), .op (.appz (.tmp 20) (.tmp 21) 1 8), none⟩,
    ⟨(some 23), .op (.mv (.tmp 0)), none⟩,
    ⟨(some 24), .op (.len false (.tmp 23)), none⟩,
    ⟨(some 25), .op (.slcS (.tmp 22) none (some (.tmp 24)) none 1), none⟩,
    ⟨(some 0), .op (.mv (.tmp 25)), none⟩]) (.kill [1, 17, 18, 19, 20, 21, 22, 23, 24, 25])) .nv))
  (.ghost (.kill [1, 16]) .skip))))
  (.seq (.post (.reg [⟨(some 26), .op (.mv (.tmp 0)), none⟩,
    ⟨(some 4), .op (.mv (.tmp 26)), none⟩]) (.kill [0, 26]))
  .ret))))
theorem cf_slices_Grow_L_int64 : chkFn Tryd.prog i_slices_Grow_L_int64 ac_slices_Grow_L_int64 [.tmp 4] 27 = true := by decide +kernel
def fa_slices_Grow_L_int64 : FnA := ⟨ac_slices_Grow_L_int64, [.tmp 4], 27, false, true, [], .any, none⟩

/-- The checked code of slices Concat   int64 int64 . -/
def lb_slices_Concat_L_int64_0 : AC := (.post (.seq (.reg [⟨(some 12), .op (.bin .lss (.tmp 11) (.tmp 10)), none⟩])
  (.seq (.cond (.tmp 12) (.ghost (.kill [12]) .skip)
  (.ghost (.kill [9, 10, 11, 12]) (.exit 0)))
  (.seq (.block 1 (.seq (.post (.reg [⟨(some 13), .op (.iaddrS (.tmp 9) (.tmp 11) 1), none⟩,
    ⟨(some 14), .op (.load 1 false (.tmp 13)), none⟩,
    ⟨(some 5), .op (.mv (.tmp 14)), none⟩]) (.kill [13, 14]))
  (.seq (.post (.reg [⟨(some 15), .op (.mv (.tmp 3)), none⟩,
    ⟨(some 16), .op (.mv (.tmp 5)), none⟩,
    ⟨(some 17), .op (.len false (.tmp 16)), none⟩,
    ⟨(some 18), .op (.bin .add (.tmp 15) (.tmp 17)), none⟩,
    ⟨(some 3), .op (.mv (.tmp 18)), none⟩]) (.kill [5, 15, 16, 17, 18]))
  (.seq (.post (.reg [⟨(some 19), .op (.mv (.tmp 3)), none⟩,
    ⟨(some 20), .op (.bin .lss (.tmp 19) (.const (Value.int .i64 0))), none⟩]) (.kill [19]))
  (.cond (.tmp 20) (.ghost (.kill [20]) (.post (.reg [⟨(some 21), .op (.bad), none⟩,
    ⟨none, .op (.bad), none⟩]) (.kill [21])))
  (.ghost (.kill [20]) .skip))))))
  (.post (.reg [⟨(some 22), .op (.bin .add (.tmp 11) (.const (Value.int .i64 1))), none⟩,
    ⟨(some 11), .op (.mv (.tmp 22)), none⟩]) (.kill [22]))))) .nv)
def lo_slices_Concat_L_int64_0 : AC := (.loop lb_slices_Concat_L_int64_0)
def lb_slices_Concat_L_int64_1 : AC := (.post (.seq (.reg [⟨(some 28), .op (.bin .lss (.tmp 27) (.tmp 26)), none⟩])
  (.seq (.cond (.tmp 28) (.ghost (.kill [28]) .skip)
  (.ghost (.kill [25, 26, 27, 28]) (.exit 2)))
  (.seq (.block 3 (.seq (.post (.reg [⟨(some 29), .op (.iaddrS (.tmp 25) (.tmp 27) 1), none⟩,
    ⟨(some 30), .op (.load 1 false (.tmp 29)), none⟩,
    ⟨(some 8), .op (.mv (.tmp 30)), none⟩]) (.kill [29, 30]))
  (.post (.post (.reg [⟨(some 31), .op (.mv (.tmp 6)), none⟩,
    ⟨(some 32), .op (.mv (.tmp 8)), none⟩,
    ⟨(some 33), .op (.append (.tmp 31) (.tmp 32) 1 8), none⟩,
    ⟨(some 6), .op (.mv (.tmp 33)), none⟩]) (.kill [8, 31, 32, 33])) .nv)))
  (.post (.reg [⟨(some 34), .op (.bin .add (.tmp 27) (.const (Value.int .i64 1))), none⟩,
    ⟨(some 27), .op (.mv (.tmp 34)), none⟩]) (.kill [34]))))) .nv)
def lo_slices_Concat_L_int64_1 : AC := (.loop lb_slices_Concat_L_int64_1)
def ac_slices_Concat_L_int64 : AC := (.seq (.post (.reg [⟨(some 2), .op (.mv (.const (Value.slice none 0 0))), none⟩]) (.kill [2]))
  (.seq (.reg [⟨(some 3), .op (.mv (.const (Value.int .i64 0))), none⟩])
  (.seq (.seq (.reg [⟨(some 9), .op (.mv (.tmp 0)), none⟩,
    ⟨(some 10), .op (.len false (.tmp 9)), none⟩,
    ⟨(some 11), .op (.mv (.const (Value.int .i64 0))), none⟩])
  (.post (.block 0 (.ghost .nv lo_slices_Concat_L_int64_0)) .nv))
  (.ghost (.kill [9, 10, 11]) (.seq (.post (.reg [⟨(some 23), .op (.mv (.tmp 3)), none⟩,
    ⟨(some 24), .call (.func i_slices_Grow_L_int64) [(.const (Value.slice none 0 0)), (.tmp 23)], none⟩,
    ⟨(some 6), .op (.mv (.tmp 24)), none⟩]) (.kill [3, 23, 24]))
  (.seq (.seq (.post (.reg [⟨(some 25), .op (.mv (.tmp 0)), none⟩,
    ⟨(some 26), .op (.len false (.tmp 25)), none⟩,
    ⟨(some 27), .op (.mv (.const (Value.int .i64 0))), none⟩]) (.kill [0]))
  (.post (.block 2 (.ghost (.ow 6 none 1) (.ghost .nv lo_slices_Concat_L_int64_1))) .nv))
  (.ghost (.kill [25, 26, 27]) (.seq (.post (.reg [⟨(some 35), .op (.mv (.tmp 6)), none⟩,
    ⟨(some 2), .op (.mv (.tmp 35)), none⟩]) (.kill [6, 35]))
  .ret))))))))
theorem cf_slices_Concat_L_int64 : chkFn Tryd.prog i_slices_Concat_L_int64 ac_slices_Concat_L_int64 [.tmp 2] 36 = true := by decide +kernel
def fa_slices_Concat_L_int64 : FnA := ⟨ac_slices_Concat_L_int64, [.tmp 2], 36, false, true, [], .any, none⟩

/-- The checked code of impl CheckerText. -/
def lb_impl_CheckerText_0 : AC := (.post (.seq (.reg [⟨(some 37), .op (.bin .lss (.tmp 36) (.tmp 35)), none⟩])
  (.seq (.cond (.tmp 37) (.ghost (.kill [37]) .skip)
  (.ghost (.kill [34, 35, 36, 37]) (.exit 2)))
  (.seq (.block 3 (.seq (.post (.reg [⟨(some 38), .op (.iaddrS (.tmp 34) (.tmp 36) 2), none⟩,
    ⟨(some 39), .op (.load 2 true (.tmp 38)), none⟩,
    ⟨(some 8), .op (.alloc (Value.agg #[Value.int .i64 0, Value.int .i64 0])), none⟩,
    ⟨none, .op (.store 2 (.tmp 8) (.tmp 39)), none⟩]) (.kill [38, 39]))
  (.post (.post (.reg [⟨(some 40), .op (.mv (.tmp 6)), none⟩,
    ⟨(some 41), .op (.faddr (.tmp 8) 0), none⟩,
    ⟨(some 42), .op (.load 1 false (.tmp 41)), none⟩,
    ⟨(some 43), .op (.faddr (.tmp 8) 1), none⟩,
    ⟨(some 44), .op (.load 1 false (.tmp 43)), none⟩,
    ⟨(some 45), .op (.lits true 1 2 (Value.int .i64 0) [(0, (.tmp 42)), (1, (.tmp 44))]), none⟩,
    ⟨(some 46), .op (.append (.tmp 40) (.tmp 45) 1 8), none⟩,
    ⟨(some 6), .op (.mv (.tmp 46)), none⟩]) (.kill [8, 40, 41, 42, 43, 44, 45, 46])) .nv)))
  (.post (.reg [⟨(some 47), .op (.bin .add (.tmp 36) (.const (Value.int .i64 1))), none⟩,
    ⟨(some 36), .op (.mv (.tmp 47)), none⟩]) (.kill [47]))))) .nv)
def lo_impl_CheckerText_0 : AC := (.loop lb_impl_CheckerText_0)
def lb_impl_CheckerText_1 : AC := (.post (.seq (.reg [⟨(some 25), .op (.bin .lss (.tmp 24) (.tmp 23)), none⟩])
  (.seq (.cond (.tmp 25) (.ghost (.kill [25]) .skip)
  (.ghost (.kill [1, 22, 23, 24, 25]) (.exit 0)))
  (.seq (.block 1 (.seq (.post (.reg [⟨(some 26), .op (.mv (.tmp 24)), none⟩,
    ⟨(some 27), .op (.iaddrS (.tmp 22) (.tmp 24) 1), none⟩,
    ⟨(some 28), .op (.load 1 false (.tmp 27)), none⟩,
    ⟨(some 4), .op (.mv (.tmp 26)), none⟩,
    ⟨(some 5), .op (.mv (.tmp 28)), none⟩]) (.kill [26, 27, 28]))
  (.seq (.post (.reg [⟨(some 29), .op (.lits true 1 0 (Value.int .i64 0) []), none⟩,
    ⟨(some 6), .op (.mv (.tmp 29)), none⟩]) (.kill [29]))
  (.seq (.seq (.post (.reg [⟨(some 30), .op (.faddr (.tmp 1) 3), none⟩,
    ⟨(some 31), .op (.load 1 false (.tmp 30)), none⟩,
    ⟨(some 32), .op (.mv (.tmp 4)), none⟩,
    ⟨(some 33), .op (.iaddrS (.tmp 31) (.tmp 32) 1), none⟩,
    ⟨(some 34), .op (.load 1 false (.tmp 33)), none⟩,
    ⟨(some 35), .op (.len false (.tmp 34)), none⟩,
    ⟨(some 36), .op (.mv (.const (Value.int .i64 0))), none⟩]) (.kill [30, 31, 32, 33]))
  (.post (.block 2 (.ghost (.ow 6 none 1) (.ghost .nv lo_impl_CheckerText_0))) .nv))
  (.ghost (.kill [34, 35, 36]) (.post (.draw [⟨0, ⟨(some 48), .op (.mv (.tmp 3)), none⟩, []⟩,
    ⟨1, ⟨(some 49), .op (.mv (.tmp 5)), none⟩, []⟩,
    ⟨3, ⟨(some 51), .op (.mv (.tmp 6)), none⟩, []⟩,
    ⟨4, ⟨(some 52), .op (.faddr (.tmp 1) 4), none⟩, []⟩,
    ⟨5, ⟨(some 53), .op (.load 1 false (.tmp 52)), none⟩, []⟩,
    ⟨6, ⟨(some 54), .op (.mv (.tmp 4)), none⟩, []⟩,
    ⟨7, ⟨(some 55), .op (.iaddrS (.tmp 53) (.tmp 54) 1), none⟩, []⟩,
    ⟨8, ⟨(some 56), .op (.load 1 false (.tmp 55)), none⟩, []⟩,
    ⟨9, ⟨(some 57), .op (.iaddrS (.tmp 56) (.const (Value.int .i64 0)) 1), none⟩, []⟩,
    ⟨10, ⟨(some 58), .op (.load 1 false (.tmp 57)), none⟩, []⟩,
    ⟨11, ⟨(some 59), .op (.faddr (.tmp 1) 4), none⟩, []⟩,
    ⟨12, ⟨(some 60), .op (.load 1 false (.tmp 59)), none⟩, []⟩,
    ⟨13, ⟨(some 61), .op (.mv (.tmp 4)), none⟩, []⟩,
    ⟨14, ⟨(some 62), .op (.iaddrS (.tmp 60) (.tmp 61) 1), none⟩, []⟩,
    ⟨15, ⟨(some 63), .op (.load 1 false (.tmp 62)), none⟩, []⟩,
    ⟨16, ⟨(some 64), .op (.iaddrS (.tmp 63) (.const (Value.int .i64 1)) 1), none⟩, []⟩,
    ⟨17, ⟨(some 65), .op (.load 1 false (.tmp 64)), none⟩, []⟩,
    ⟨18, ⟨(some 66), .op (.faddr (.tmp 1) 5), none⟩, []⟩,
    ⟨19, ⟨(some 67), .op (.load 1 false (.tmp 66)), none⟩, []⟩,
    ⟨20, ⟨(some 68), .op (.mv (.tmp 4)), none⟩, []⟩,
    ⟨21, ⟨(some 69), .op (.iaddrS (.tmp 67) (.tmp 68) 1), none⟩, []⟩,
    ⟨22, ⟨(some 70), .op (.load 1 false (.tmp 69)), none⟩, []⟩,
    ⟨23, ⟨(some 71), .op (.lits true 1 4 (Value.slice none 0 0) [(0, (.tmp 51)), (1, (.tmp 58)), (2, (.tmp 65)), (3, (.tmp 70))]), none⟩, []⟩,
    ⟨2, ⟨(some 50), .call (.func i_impl_yes) [(.tmp 49)], none⟩, [5, 7, 8, 9, 10, 12, 14, 15, 16, 17, 19, 21, 22]⟩,
    ⟨24, ⟨(some 72), .call (.func i_slices_Concat_L_int64) [(.tmp 71)], none⟩, []⟩,
    ⟨25, ⟨(some 73), .call (.func i_impl_words) [(.tmp 50), (.tmp 72)], none⟩, []⟩,
    ⟨26, ⟨(some 74), .op (.bin .add (.tmp 48) (.tmp 73)), none⟩, []⟩,
    ⟨27, ⟨(some 3), .op (.mv (.tmp 74)), none⟩, []⟩]
    [0, 0, 2, 0, 0, 16, 0, 112, 240, 496, 1008, 0, 2048, 0, 14336, 30720, 63488, 129024, 0, 262144, 0, 1835008, 3932160, 8388600, 16777214, 33554430, 67108863, 134217727]) (.kill [4, 5, 6, 48, 49, 50, 51, 52, 53, 54, 55, 56, 57, 58, 59, 60, 61, 62, 63, 64, 65, 66, 67, 68, 69, 70, 71, 72, 73, 74])))))))
  (.post (.reg [⟨(some 75), .op (.bin .add (.tmp 24) (.const (Value.int .i64 1))), none⟩,
    ⟨(some 24), .op (.mv (.tmp 75)), none⟩]) (.kill [75]))))) .nv)
def lo_impl_CheckerText_1 : AC := (.loop lb_impl_CheckerText_1)
def ac_impl_CheckerText : AC := (.seq (.post (.reg [⟨(some 1), .op (.box true (.tmp 0)), none⟩,
    ⟨(some 2), .op (.mv (.const (Value.string ⟨#[]⟩))), none⟩]) (.kill [0, 2]))
  (.seq (.seq (.post (.reg [⟨(some 9), .op (.load 6 true (.tmp 1)), none⟩,
    ⟨(some 10), .call (.func i_impl_ValidChecker) [(.tmp 9)], none⟩,
    ⟨(some 11), .op (.un .not (.tmp 10)), none⟩]) (.kill [9, 10]))
  (.cond (.tmp 11) (.ghost (.kill [1, 11]) (.seq (.reg [⟨(some 2), .op (.mv (.const (Value.string ⟨#[]⟩))), none⟩])
  .ret))
  (.ghost (.kill [11]) .skip)))
  (.seq (.post (.draw [⟨0, ⟨(some 12), .op (.faddr (.tmp 1) 2), none⟩, []⟩,
    ⟨1, ⟨(some 13), .op (.load 1 false (.tmp 12)), none⟩, []⟩,
    ⟨3, ⟨(some 15), .op (.faddr (.tmp 1) 0), none⟩, []⟩,
    ⟨4, ⟨(some 16), .op (.load 1 false (.tmp 15)), none⟩, []⟩,
    ⟨5, ⟨(some 17), .op (.faddr (.tmp 1) 1), none⟩, []⟩,
    ⟨6, ⟨(some 18), .op (.load 1 false (.tmp 17)), none⟩, []⟩,
    ⟨2, ⟨(some 14), .call (.func i_impl_size_bool) [(.tmp 13)], none⟩, [4, 6]⟩,
    ⟨7, ⟨(some 19), .op (.lits true 1 3 (Value.int .i64 0) [(0, (.tmp 14)), (1, (.tmp 16)), (2, (.tmp 18))]), none⟩, []⟩,
    ⟨8, ⟨(some 20), .call (.func i_impl_words) [(.const (Value.string ⟨#[99, 104, 101, 99, 107, 101, 114]⟩)), (.tmp 19)], none⟩, []⟩,
    ⟨9, ⟨(some 3), .op (.mv (.tmp 20)), none⟩, []⟩]
    [0, 1, 3, 0, 8, 0, 32, 127, 255, 511]) (.kill [12, 13, 14, 15, 16, 17, 18, 19, 20]))
  (.seq (.seq (.post (.reg [⟨(some 21), .op (.faddr (.tmp 1) 2), none⟩,
    ⟨(some 22), .op (.load 1 false (.tmp 21)), none⟩,
    ⟨(some 23), .op (.len false (.tmp 22)), none⟩,
    ⟨(some 24), .op (.mv (.const (Value.int .i64 0))), none⟩]) (.kill [21]))
  (.post (.block 0 (.ghost .nv lo_impl_CheckerText_1)) .nv))
  (.ghost (.kill [1, 22, 23, 24]) (.seq (.post (.reg [⟨(some 76), .op (.mv (.tmp 3)), none⟩,
    ⟨(some 2), .op (.mv (.tmp 76)), none⟩]) (.kill [3, 76]))
  .ret))))))
theorem cf_impl_CheckerText : chkFn Tryd.prog i_impl_CheckerText ac_impl_CheckerText [.tmp 2] 77 = true := by decide +kernel
def fa_impl_CheckerText : FnA := ⟨ac_impl_CheckerText, [.tmp 2], 77, false, true, [], .any, none⟩

/-- The checked code of laws eqBoolS. -/
def lb_laws_eqBoolS_0 : AC := (.seq (.seq (.post (.reg [⟨(some 11), .op (.mv (.tmp 5)), none⟩,
    ⟨(some 12), .op (.mv (.tmp 0)), none⟩,
    ⟨(some 13), .op (.len false (.tmp 12)), none⟩,
    ⟨(some 14), .op (.bin .lss (.tmp 11) (.tmp 13)), none⟩]) (.kill [11, 12, 13]))
  (.cond (.tmp 14) (.ghost (.kill [14]) .skip)
  (.ghost (.kill [0, 1, 5, 14]) (.exit 0))))
  (.seq (.block 1 (.seq (.post (.draw [⟨0, ⟨(some 17), .op (.mv (.tmp 0)), none⟩, []⟩,
    ⟨1, ⟨(some 18), .op (.mv (.tmp 5)), none⟩, []⟩,
    ⟨2, ⟨(some 19), .op (.iaddrS (.tmp 17) (.tmp 18) 1), none⟩, []⟩,
    ⟨3, ⟨(some 20), .op (.load 1 false (.tmp 19)), none⟩, []⟩,
    ⟨4, ⟨(some 21), .op (.mv (.tmp 1)), none⟩, []⟩,
    ⟨5, ⟨(some 22), .op (.mv (.tmp 5)), none⟩, []⟩,
    ⟨6, ⟨(some 23), .op (.iaddrS (.tmp 21) (.tmp 22) 1), none⟩, []⟩,
    ⟨7, ⟨(some 24), .op (.load 1 false (.tmp 23)), none⟩, []⟩,
    ⟨8, ⟨(some 25), .op (.eqb true (.tmp 20) (.tmp 24)), none⟩, []⟩]
    [0, 0, 3, 7, 0, 0, 48, 112, 255]) (.kill [17, 18, 19, 20, 21, 22, 23, 24]))
  (.cond (.tmp 25) (.ghost (.kill [0, 1, 5, 25]) (.seq (.reg [⟨(some 4), .op (.mv (.const (Value.bool false))), none⟩])
  .ret))
  (.ghost (.kill [25]) .skip))))
  (.post (.reg [⟨(some 15), .op (.mv (.tmp 5)), none⟩,
    ⟨(some 16), .op (.bin .add (.tmp 15) (.const (Value.int .i64 1))), none⟩,
    ⟨(some 5), .op (.mv (.tmp 16)), none⟩]) (.kill [15, 16]))))
def lo_laws_eqBoolS_0 : AC := (.loop lb_laws_eqBoolS_0)
def ac_laws_eqBoolS : AC := (.seq (.post (.reg [⟨(some 4), .op (.mv (.const (Value.bool false))), none⟩]) (.kill [4]))
  (.seq (.seq (.post (.reg [⟨(some 6), .op (.mv (.tmp 0)), none⟩,
    ⟨(some 7), .op (.len false (.tmp 6)), none⟩,
    ⟨(some 8), .op (.mv (.tmp 1)), none⟩,
    ⟨(some 9), .op (.len false (.tmp 8)), none⟩,
    ⟨(some 10), .op (.bin .neq (.tmp 7) (.tmp 9)), none⟩]) (.kill [6, 7, 8, 9]))
  (.cond (.tmp 10) (.ghost (.kill [0, 1, 10]) (.seq (.reg [⟨(some 4), .op (.mv (.const (Value.bool false))), none⟩])
  .ret))
  (.ghost (.kill [10]) .skip)))
  (.seq (.seq (.reg [⟨(some 5), .op (.mv (.const (Value.int .i64 0))), none⟩])
  (.block 0 lo_laws_eqBoolS_0))
  (.ghost (.kill [0, 1, 5]) (.seq (.reg [⟨(some 4), .op (.mv (.const (Value.bool true))), none⟩])
  .ret)))))
theorem cf_laws_eqBoolS : chkFn Tryd.prog i_laws_eqBoolS ac_laws_eqBoolS [.tmp 4] 26 = true := by decide +kernel
def fa_laws_eqBoolS : FnA := ⟨ac_laws_eqBoolS, [.tmp 4], 26, false, true, [], .any, none⟩

/-- The checked code of laws eqPush. -/
def ac_laws_eqPush : AC := (.seq (.post (.reg [⟨(some 2), .op (.box true (.tmp 0)), none⟩,
    ⟨(some 3), .op (.box true (.tmp 1)), none⟩,
    ⟨(some 4), .op (.mv (.const (Value.bool false))), none⟩]) (.kill [0, 1, 4]))
  (.seq (.seq (.post (.reg [⟨(some 5), .op (.faddr (.tmp 2) 0), none⟩,
    ⟨(some 6), .op (.load 1 false (.tmp 5)), none⟩,
    ⟨(some 7), .op (.faddr (.tmp 3) 0), none⟩,
    ⟨(some 8), .op (.load 1 false (.tmp 7)), none⟩,
    ⟨(some 9), .op (.bin .neq (.tmp 6) (.tmp 8)), none⟩]) (.kill [5, 6, 7, 8]))
  (.cond (.tmp 9) (.ghost (.kill [2, 3, 9]) (.seq (.reg [⟨(some 4), .op (.mv (.const (Value.bool false))), none⟩])
  .ret))
  (.ghost (.kill [9]) .skip)))
  (.seq (.seq (.post (.reg [⟨(some 10), .op (.faddr (.tmp 2) 1), none⟩,
    ⟨(some 11), .op (.load 1 false (.tmp 10)), none⟩,
    ⟨(some 12), .op (.faddr (.tmp 3) 1), none⟩,
    ⟨(some 13), .op (.load 1 false (.tmp 12)), none⟩,
    ⟨(some 14), .op (.bin .neq (.tmp 11) (.tmp 13)), none⟩]) (.kill [2, 3, 10, 11, 12, 13]))
  (.cond (.tmp 14) (.ghost (.kill [14]) (.seq (.reg [⟨(some 4), .op (.mv (.const (Value.bool false))), none⟩])
  .ret))
  (.ghost (.kill [14]) .skip)))
  (.seq (.reg [⟨(some 4), .op (.mv (.const (Value.bool true))), none⟩])
  .ret))))
theorem cf_laws_eqPush : chkFn Tryd.prog i_laws_eqPush ac_laws_eqPush [.tmp 4] 15 = true := by decide +kernel
def fa_laws_eqPush : FnA := ⟨ac_laws_eqPush, [.tmp 4], 15, false, true, [], .any, none⟩

/-- The checked code of laws eqPushS. -/
def lb_laws_eqPushS_0 : AC := (.seq (.seq (.post (.reg [⟨(some 11), .op (.mv (.tmp 5)), none⟩,
    ⟨(some 12), .op (.mv (.tmp 0)), none⟩,
    ⟨(some 13), .op (.len false (.tmp 12)), none⟩,
    ⟨(some 14), .op (.bin .lss (.tmp 11) (.tmp 13)), none⟩]) (.kill [11, 12, 13]))
  (.cond (.tmp 14) (.ghost (.kill [14]) .skip)
  (.ghost (.kill [0, 1, 5, 14]) (.exit 0))))
  (.seq (.block 1 (.seq (.post (.draw [⟨0, ⟨(some 17), .op (.mv (.tmp 0)), none⟩, []⟩,
    ⟨1, ⟨(some 18), .op (.mv (.tmp 5)), none⟩, []⟩,
    ⟨2, ⟨(some 19), .op (.iaddrS (.tmp 17) (.tmp 18) 2), none⟩, []⟩,
    ⟨3, ⟨(some 20), .op (.load 2 true (.tmp 19)), none⟩, []⟩,
    ⟨4, ⟨(some 21), .op (.mv (.tmp 1)), none⟩, []⟩,
    ⟨5, ⟨(some 22), .op (.mv (.tmp 5)), none⟩, []⟩,
    ⟨6, ⟨(some 23), .op (.iaddrS (.tmp 21) (.tmp 22) 2), none⟩, []⟩,
    ⟨7, ⟨(some 24), .op (.load 2 true (.tmp 23)), none⟩, []⟩,
    ⟨8, ⟨(some 25), .call (.func i_laws_eqPush) [(.tmp 20), (.tmp 24)], none⟩, []⟩,
    ⟨9, ⟨(some 26), .op (.un .not (.tmp 25)), none⟩, []⟩]
    [0, 0, 3, 7, 0, 0, 48, 112, 255, 511]) (.kill [17, 18, 19, 20, 21, 22, 23, 24, 25]))
  (.cond (.tmp 26) (.ghost (.kill [0, 1, 5, 26]) (.seq (.reg [⟨(some 4), .op (.mv (.const (Value.bool false))), none⟩])
  .ret))
  (.ghost (.kill [26]) .skip))))
  (.post (.reg [⟨(some 15), .op (.mv (.tmp 5)), none⟩,
    ⟨(some 16), .op (.bin .add (.tmp 15) (.const (Value.int .i64 1))), none⟩,
    ⟨(some 5), .op (.mv (.tmp 16)), none⟩]) (.kill [15, 16]))))
def lo_laws_eqPushS_0 : AC := (.loop lb_laws_eqPushS_0)
def ac_laws_eqPushS : AC := (.seq (.post (.reg [⟨(some 4), .op (.mv (.const (Value.bool false))), none⟩]) (.kill [4]))
  (.seq (.seq (.post (.reg [⟨(some 6), .op (.mv (.tmp 0)), none⟩,
    ⟨(some 7), .op (.len false (.tmp 6)), none⟩,
    ⟨(some 8), .op (.mv (.tmp 1)), none⟩,
    ⟨(some 9), .op (.len false (.tmp 8)), none⟩,
    ⟨(some 10), .op (.bin .neq (.tmp 7) (.tmp 9)), none⟩]) (.kill [6, 7, 8, 9]))
  (.cond (.tmp 10) (.ghost (.kill [0, 1, 10]) (.seq (.reg [⟨(some 4), .op (.mv (.const (Value.bool false))), none⟩])
  .ret))
  (.ghost (.kill [10]) .skip)))
  (.seq (.seq (.reg [⟨(some 5), .op (.mv (.const (Value.int .i64 0))), none⟩])
  (.block 0 lo_laws_eqPushS_0))
  (.ghost (.kill [0, 1, 5]) (.seq (.reg [⟨(some 4), .op (.mv (.const (Value.bool true))), none⟩])
  .ret)))))
theorem cf_laws_eqPushS : chkFn Tryd.prog i_laws_eqPushS ac_laws_eqPushS [.tmp 4] 27 = true := by decide +kernel
def fa_laws_eqPushS : FnA := ⟨ac_laws_eqPushS, [.tmp 4], 27, false, true, [], .any, none⟩

/-- The checked code of laws eqPushSS. -/
def lb_laws_eqPushSS_0 : AC := (.seq (.seq (.post (.reg [⟨(some 11), .op (.mv (.tmp 5)), none⟩,
    ⟨(some 12), .op (.mv (.tmp 0)), none⟩,
    ⟨(some 13), .op (.len false (.tmp 12)), none⟩,
    ⟨(some 14), .op (.bin .lss (.tmp 11) (.tmp 13)), none⟩]) (.kill [11, 12, 13]))
  (.cond (.tmp 14) (.ghost (.kill [14]) .skip)
  (.ghost (.kill [0, 1, 5, 14]) (.exit 0))))
  (.seq (.block 1 (.seq (.post (.draw [⟨0, ⟨(some 17), .op (.mv (.tmp 0)), none⟩, []⟩,
    ⟨1, ⟨(some 18), .op (.mv (.tmp 5)), none⟩, []⟩,
    ⟨2, ⟨(some 19), .op (.iaddrS (.tmp 17) (.tmp 18) 1), none⟩, []⟩,
    ⟨3, ⟨(some 20), .op (.load 1 false (.tmp 19)), none⟩, []⟩,
    ⟨4, ⟨(some 21), .op (.mv (.tmp 1)), none⟩, []⟩,
    ⟨5, ⟨(some 22), .op (.mv (.tmp 5)), none⟩, []⟩,
    ⟨6, ⟨(some 23), .op (.iaddrS (.tmp 21) (.tmp 22) 1), none⟩, []⟩,
    ⟨7, ⟨(some 24), .op (.load 1 false (.tmp 23)), none⟩, []⟩,
    ⟨8, ⟨(some 25), .call (.func i_laws_eqPushS) [(.tmp 20), (.tmp 24)], none⟩, []⟩,
    ⟨9, ⟨(some 26), .op (.un .not (.tmp 25)), none⟩, []⟩]
    [0, 0, 3, 7, 0, 0, 48, 112, 255, 511]) (.kill [17, 18, 19, 20, 21, 22, 23, 24, 25]))
  (.cond (.tmp 26) (.ghost (.kill [0, 1, 5, 26]) (.seq (.reg [⟨(some 4), .op (.mv (.const (Value.bool false))), none⟩])
  .ret))
  (.ghost (.kill [26]) .skip))))
  (.post (.reg [⟨(some 15), .op (.mv (.tmp 5)), none⟩,
    ⟨(some 16), .op (.bin .add (.tmp 15) (.const (Value.int .i64 1))), none⟩,
    ⟨(some 5), .op (.mv (.tmp 16)), none⟩]) (.kill [15, 16]))))
def lo_laws_eqPushSS_0 : AC := (.loop lb_laws_eqPushSS_0)
def ac_laws_eqPushSS : AC := (.seq (.post (.reg [⟨(some 4), .op (.mv (.const (Value.bool false))), none⟩]) (.kill [4]))
  (.seq (.seq (.post (.reg [⟨(some 6), .op (.mv (.tmp 0)), none⟩,
    ⟨(some 7), .op (.len false (.tmp 6)), none⟩,
    ⟨(some 8), .op (.mv (.tmp 1)), none⟩,
    ⟨(some 9), .op (.len false (.tmp 8)), none⟩,
    ⟨(some 10), .op (.bin .neq (.tmp 7) (.tmp 9)), none⟩]) (.kill [6, 7, 8, 9]))
  (.cond (.tmp 10) (.ghost (.kill [0, 1, 10]) (.seq (.reg [⟨(some 4), .op (.mv (.const (Value.bool false))), none⟩])
  .ret))
  (.ghost (.kill [10]) .skip)))
  (.seq (.seq (.reg [⟨(some 5), .op (.mv (.const (Value.int .i64 0))), none⟩])
  (.block 0 lo_laws_eqPushSS_0))
  (.ghost (.kill [0, 1, 5]) (.seq (.reg [⟨(some 4), .op (.mv (.const (Value.bool true))), none⟩])
  .ret)))))
theorem cf_laws_eqPushSS : chkFn Tryd.prog i_laws_eqPushSS ac_laws_eqPushSS [.tmp 4] 27 = true := by decide +kernel
def fa_laws_eqPushSS : FnA := ⟨ac_laws_eqPushSS, [.tmp 4], 27, false, true, [], .any, none⟩

/-- The checked code of laws eqInt64S. -/
def lb_laws_eqInt64S_0 : AC := (.seq (.seq (.post (.reg [⟨(some 11), .op (.mv (.tmp 5)), none⟩,
    ⟨(some 12), .op (.mv (.tmp 0)), none⟩,
    ⟨(some 13), .op (.len false (.tmp 12)), none⟩,
    ⟨(some 14), .op (.bin .lss (.tmp 11) (.tmp 13)), none⟩]) (.kill [11, 12, 13]))
  (.cond (.tmp 14) (.ghost (.kill [14]) .skip)
  (.ghost (.kill [0, 1, 5, 14]) (.exit 0))))
  (.seq (.block 1 (.seq (.post (.draw [⟨0, ⟨(some 17), .op (.mv (.tmp 0)), none⟩, []⟩,
    ⟨1, ⟨(some 18), .op (.mv (.tmp 5)), none⟩, []⟩,
    ⟨2, ⟨(some 19), .op (.iaddrS (.tmp 17) (.tmp 18) 1), none⟩, []⟩,
    ⟨3, ⟨(some 20), .op (.load 1 false (.tmp 19)), none⟩, []⟩,
    ⟨4, ⟨(some 21), .op (.mv (.tmp 1)), none⟩, []⟩,
    ⟨5, ⟨(some 22), .op (.mv (.tmp 5)), none⟩, []⟩,
    ⟨6, ⟨(some 23), .op (.iaddrS (.tmp 21) (.tmp 22) 1), none⟩, []⟩,
    ⟨7, ⟨(some 24), .op (.load 1 false (.tmp 23)), none⟩, []⟩,
    ⟨8, ⟨(some 25), .op (.bin .neq (.tmp 20) (.tmp 24)), none⟩, []⟩]
    [0, 0, 3, 7, 0, 0, 48, 112, 255]) (.kill [17, 18, 19, 20, 21, 22, 23, 24]))
  (.cond (.tmp 25) (.ghost (.kill [0, 1, 5, 25]) (.seq (.reg [⟨(some 4), .op (.mv (.const (Value.bool false))), none⟩])
  .ret))
  (.ghost (.kill [25]) .skip))))
  (.post (.reg [⟨(some 15), .op (.mv (.tmp 5)), none⟩,
    ⟨(some 16), .op (.bin .add (.tmp 15) (.const (Value.int .i64 1))), none⟩,
    ⟨(some 5), .op (.mv (.tmp 16)), none⟩]) (.kill [15, 16]))))
def lo_laws_eqInt64S_0 : AC := (.loop lb_laws_eqInt64S_0)
def ac_laws_eqInt64S : AC := (.seq (.post (.reg [⟨(some 4), .op (.mv (.const (Value.bool false))), none⟩]) (.kill [4]))
  (.seq (.seq (.post (.reg [⟨(some 6), .op (.mv (.tmp 0)), none⟩,
    ⟨(some 7), .op (.len false (.tmp 6)), none⟩,
    ⟨(some 8), .op (.mv (.tmp 1)), none⟩,
    ⟨(some 9), .op (.len false (.tmp 8)), none⟩,
    ⟨(some 10), .op (.bin .neq (.tmp 7) (.tmp 9)), none⟩]) (.kill [6, 7, 8, 9]))
  (.cond (.tmp 10) (.ghost (.kill [0, 1, 10]) (.seq (.reg [⟨(some 4), .op (.mv (.const (Value.bool false))), none⟩])
  .ret))
  (.ghost (.kill [10]) .skip)))
  (.seq (.seq (.reg [⟨(some 5), .op (.mv (.const (Value.int .i64 0))), none⟩])
  (.block 0 lo_laws_eqInt64S_0))
  (.ghost (.kill [0, 1, 5]) (.seq (.reg [⟨(some 4), .op (.mv (.const (Value.bool true))), none⟩])
  .ret)))))
theorem cf_laws_eqInt64S : chkFn Tryd.prog i_laws_eqInt64S ac_laws_eqInt64S [.tmp 4] 26 = true := by decide +kernel
def fa_laws_eqInt64S : FnA := ⟨ac_laws_eqInt64S, [.tmp 4], 26, false, true, [], .any, none⟩

/-- The checked code of laws eqInt64SS. -/
def lb_laws_eqInt64SS_0 : AC := (.seq (.seq (.post (.reg [⟨(some 11), .op (.mv (.tmp 5)), none⟩,
    ⟨(some 12), .op (.mv (.tmp 0)), none⟩,
    ⟨(some 13), .op (.len false (.tmp 12)), none⟩,
    ⟨(some 14), .op (.bin .lss (.tmp 11) (.tmp 13)), none⟩]) (.kill [11, 12, 13]))
  (.cond (.tmp 14) (.ghost (.kill [14]) .skip)
  (.ghost (.kill [0, 1, 5, 14]) (.exit 0))))
  (.seq (.block 1 (.seq (.post (.draw [⟨0, ⟨(some 17), .op (.mv (.tmp 0)), none⟩, []⟩,
    ⟨1, ⟨(some 18), .op (.mv (.tmp 5)), none⟩, []⟩,
    ⟨2, ⟨(some 19), .op (.iaddrS (.tmp 17) (.tmp 18) 1), none⟩, []⟩,
    ⟨3, ⟨(some 20), .op (.load 1 false (.tmp 19)), none⟩, []⟩,
    ⟨4, ⟨(some 21), .op (.mv (.tmp 1)), none⟩, []⟩,
    ⟨5, ⟨(some 22), .op (.mv (.tmp 5)), none⟩, []⟩,
    ⟨6, ⟨(some 23), .op (.iaddrS (.tmp 21) (.tmp 22) 1), none⟩, []⟩,
    ⟨7, ⟨(some 24), .op (.load 1 false (.tmp 23)), none⟩, []⟩,
    ⟨8, ⟨(some 25), .call (.func i_laws_eqInt64S) [(.tmp 20), (.tmp 24)], none⟩, []⟩,
    ⟨9, ⟨(some 26), .op (.un .not (.tmp 25)), none⟩, []⟩]
    [0, 0, 3, 7, 0, 0, 48, 112, 255, 511]) (.kill [17, 18, 19, 20, 21, 22, 23, 24, 25]))
  (.cond (.tmp 26) (.ghost (.kill [0, 1, 5, 26]) (.seq (.reg [⟨(some 4), .op (.mv (.const (Value.bool false))), none⟩])
  .ret))
  (.ghost (.kill [26]) .skip))))
  (.post (.reg [⟨(some 15), .op (.mv (.tmp 5)), none⟩,
    ⟨(some 16), .op (.bin .add (.tmp 15) (.const (Value.int .i64 1))), none⟩,
    ⟨(some 5), .op (.mv (.tmp 16)), none⟩]) (.kill [15, 16]))))
def lo_laws_eqInt64SS_0 : AC := (.loop lb_laws_eqInt64SS_0)
def ac_laws_eqInt64SS : AC := (.seq (.post (.reg [⟨(some 4), .op (.mv (.const (Value.bool false))), none⟩]) (.kill [4]))
  (.seq (.seq (.post (.reg [⟨(some 6), .op (.mv (.tmp 0)), none⟩,
    ⟨(some 7), .op (.len false (.tmp 6)), none⟩,
    ⟨(some 8), .op (.mv (.tmp 1)), none⟩,
    ⟨(some 9), .op (.len false (.tmp 8)), none⟩,
    ⟨(some 10), .op (.bin .neq (.tmp 7) (.tmp 9)), none⟩]) (.kill [6, 7, 8, 9]))
  (.cond (.tmp 10) (.ghost (.kill [0, 1, 10]) (.seq (.reg [⟨(some 4), .op (.mv (.const (Value.bool false))), none⟩])
  .ret))
  (.ghost (.kill [10]) .skip)))
  (.seq (.seq (.reg [⟨(some 5), .op (.mv (.const (Value.int .i64 0))), none⟩])
  (.block 0 lo_laws_eqInt64SS_0))
  (.ghost (.kill [0, 1, 5]) (.seq (.reg [⟨(some 4), .op (.mv (.const (Value.bool true))), none⟩])
  .ret)))))
theorem cf_laws_eqInt64SS : chkFn Tryd.prog i_laws_eqInt64SS ac_laws_eqInt64SS [.tmp 4] 27 = true := by decide +kernel
def fa_laws_eqInt64SS : FnA := ⟨ac_laws_eqInt64SS, [.tmp 4], 27, false, true, [], .any, none⟩

/-- The checked code of laws eqInt64SSS. -/
def lb_laws_eqInt64SSS_0 : AC := (.seq (.seq (.post (.reg [⟨(some 11), .op (.mv (.tmp 5)), none⟩,
    ⟨(some 12), .op (.mv (.tmp 0)), none⟩,
    ⟨(some 13), .op (.len false (.tmp 12)), none⟩,
    ⟨(some 14), .op (.bin .lss (.tmp 11) (.tmp 13)), none⟩]) (.kill [11, 12, 13]))
  (.cond (.tmp 14) (.ghost (.kill [14]) .skip)
  (.ghost (.kill [0, 1, 5, 14]) (.exit 0))))
  (.seq (.block 1 (.seq (.post (.draw [⟨0, ⟨(some 17), .op (.mv (.tmp 0)), none⟩, []⟩,
    ⟨1, ⟨(some 18), .op (.mv (.tmp 5)), none⟩, []⟩,
    ⟨2, ⟨(some 19), .op (.iaddrS (.tmp 17) (.tmp 18) 1), none⟩, []⟩,
    ⟨3, ⟨(some 20), .op (.load 1 false (.tmp 19)), none⟩, []⟩,
    ⟨4, ⟨(some 21), .op (.mv (.tmp 1)), none⟩, []⟩,
    ⟨5, ⟨(some 22), .op (.mv (.tmp 5)), none⟩, []⟩,
    ⟨6, ⟨(some 23), .op (.iaddrS (.tmp 21) (.tmp 22) 1), none⟩, []⟩,
    ⟨7, ⟨(some 24), .op (.load 1 false (.tmp 23)), none⟩, []⟩,
    ⟨8, ⟨(some 25), .call (.func i_laws_eqInt64SS) [(.tmp 20), (.tmp 24)], none⟩, []⟩,
    ⟨9, ⟨(some 26), .op (.un .not (.tmp 25)), none⟩, []⟩]
    [0, 0, 3, 7, 0, 0, 48, 112, 255, 511]) (.kill [17, 18, 19, 20, 21, 22, 23, 24, 25]))
  (.cond (.tmp 26) (.ghost (.kill [0, 1, 5, 26]) (.seq (.reg [⟨(some 4), .op (.mv (.const (Value.bool false))), none⟩])
  .ret))
  (.ghost (.kill [26]) .skip))))
  (.post (.reg [⟨(some 15), .op (.mv (.tmp 5)), none⟩,
    ⟨(some 16), .op (.bin .add (.tmp 15) (.const (Value.int .i64 1))), none⟩,
    ⟨(some 5), .op (.mv (.tmp 16)), none⟩]) (.kill [15, 16]))))
def lo_laws_eqInt64SSS_0 : AC := (.loop lb_laws_eqInt64SSS_0)
def ac_laws_eqInt64SSS : AC := (.seq (.post (.reg [⟨(some 4), .op (.mv (.const (Value.bool false))), none⟩]) (.kill [4]))
  (.seq (.seq (.post (.reg [⟨(some 6), .op (.mv (.tmp 0)), none⟩,
    ⟨(some 7), .op (.len false (.tmp 6)), none⟩,
    ⟨(some 8), .op (.mv (.tmp 1)), none⟩,
    ⟨(some 9), .op (.len false (.tmp 8)), none⟩,
    ⟨(some 10), .op (.bin .neq (.tmp 7) (.tmp 9)), none⟩]) (.kill [6, 7, 8, 9]))
  (.cond (.tmp 10) (.ghost (.kill [0, 1, 10]) (.seq (.reg [⟨(some 4), .op (.mv (.const (Value.bool false))), none⟩])
  .ret))
  (.ghost (.kill [10]) .skip)))
  (.seq (.seq (.reg [⟨(some 5), .op (.mv (.const (Value.int .i64 0))), none⟩])
  (.block 0 lo_laws_eqInt64SSS_0))
  (.ghost (.kill [0, 1, 5]) (.seq (.reg [⟨(some 4), .op (.mv (.const (Value.bool true))), none⟩])
  .ret)))))
theorem cf_laws_eqInt64SSS : chkFn Tryd.prog i_laws_eqInt64SSS ac_laws_eqInt64SSS [.tmp 4] 27 = true := by decide +kernel
def fa_laws_eqInt64SSS : FnA := ⟨ac_laws_eqInt64SSS, [.tmp 4], 27, false, true, [], .any, none⟩

/-- The checked code of laws eqChecker. -/
def ac_laws_eqChecker : AC := (.seq (.post (.reg [⟨(some 2), .op (.box true (.tmp 0)), none⟩,
    ⟨(some 3), .op (.box true (.tmp 1)), none⟩,
    ⟨(some 4), .op (.mv (.const (Value.bool false))), none⟩]) (.kill [0, 1, 4]))
  (.seq (.seq (.post (.reg [⟨(some 5), .op (.faddr (.tmp 2) 0), none⟩,
    ⟨(some 6), .op (.load 1 false (.tmp 5)), none⟩,
    ⟨(some 7), .op (.faddr (.tmp 3) 0), none⟩,
    ⟨(some 8), .op (.load 1 false (.tmp 7)), none⟩,
    ⟨(some 9), .op (.bin .neq (.tmp 6) (.tmp 8)), none⟩]) (.kill [5, 6, 7, 8]))
  (.cond (.tmp 9) (.ghost (.kill [2, 3, 9]) (.seq (.reg [⟨(some 4), .op (.mv (.const (Value.bool false))), none⟩])
  .ret))
  (.ghost (.kill [9]) .skip)))
  (.seq (.seq (.post (.reg [⟨(some 10), .op (.faddr (.tmp 2) 1), none⟩,
    ⟨(some 11), .op (.load 1 false (.tmp 10)), none⟩,
    ⟨(some 12), .op (.faddr (.tmp 3) 1), none⟩,
    ⟨(some 13), .op (.load 1 false (.tmp 12)), none⟩,
    ⟨(some 14), .op (.bin .neq (.tmp 11) (.tmp 13)), none⟩]) (.kill [10, 11, 12, 13]))
  (.cond (.tmp 14) (.ghost (.kill [2, 3, 14]) (.seq (.reg [⟨(some 4), .op (.mv (.const (Value.bool false))), none⟩])
  .ret))
  (.ghost (.kill [14]) .skip)))
  (.seq (.seq (.post (.reg [⟨(some 15), .op (.faddr (.tmp 2) 2), none⟩,
    ⟨(some 16), .op (.load 1 false (.tmp 15)), none⟩,
    ⟨(some 17), .op (.faddr (.tmp 3) 2), none⟩,
    ⟨(some 18), .op (.load 1 false (.tmp 17)), none⟩,
    ⟨(some 19), .call (.func i_laws_eqBoolS) [(.tmp 16), (.tmp 18)], none⟩,
    ⟨(some 20), .op (.un .not (.tmp 19)), none⟩]) (.kill [15, 16, 17, 18, 19]))
  (.cond (.tmp 20) (.ghost (.kill [2, 3, 20]) (.seq (.reg [⟨(some 4), .op (.mv (.const (Value.bool false))), none⟩])
  .ret))
  (.ghost (.kill [20]) .skip)))
  (.seq (.seq (.post (.reg [⟨(some 21), .op (.faddr (.tmp 2) 3), none⟩,
    ⟨(some 22), .op (.load 1 false (.tmp 21)), none⟩,
    ⟨(some 23), .op (.faddr (.tmp 3) 3), none⟩,
    ⟨(some 24), .op (.load 1 false (.tmp 23)), none⟩,
    ⟨(some 25), .call (.func i_laws_eqPushSS) [(.tmp 22), (.tmp 24)], none⟩,
    ⟨(some 26), .op (.un .not (.tmp 25)), none⟩]) (.kill [21, 22, 23, 24, 25]))
  (.cond (.tmp 26) (.ghost (.kill [2, 3, 26]) (.seq (.reg [⟨(some 4), .op (.mv (.const (Value.bool false))), none⟩])
  .ret))
  (.ghost (.kill [26]) .skip)))
  (.seq (.seq (.post (.reg [⟨(some 27), .op (.faddr (.tmp 2) 4), none⟩,
    ⟨(some 28), .op (.load 1 false (.tmp 27)), none⟩,
    ⟨(some 29), .op (.faddr (.tmp 3) 4), none⟩,
    ⟨(some 30), .op (.load 1 false (.tmp 29)), none⟩,
    ⟨(some 31), .call (.func i_laws_eqInt64SSS) [(.tmp 28), (.tmp 30)], none⟩,
    ⟨(some 32), .op (.un .not (.tmp 31)), none⟩]) (.kill [27, 28, 29, 30, 31]))
  (.cond (.tmp 32) (.ghost (.kill [2, 3, 32]) (.seq (.reg [⟨(some 4), .op (.mv (.const (Value.bool false))), none⟩])
  .ret))
  (.ghost (.kill [32]) .skip)))
  (.seq (.seq (.post (.reg [⟨(some 33), .op (.faddr (.tmp 2) 5), none⟩,
    ⟨(some 34), .op (.load 1 false (.tmp 33)), none⟩,
    ⟨(some 35), .op (.faddr (.tmp 3) 5), none⟩,
    ⟨(some 36), .op (.load 1 false (.tmp 35)), none⟩,
    ⟨(some 37), .call (.func i_laws_eqInt64SS) [(.tmp 34), (.tmp 36)], none⟩,
    ⟨(some 38), .op (.un .not (.tmp 37)), none⟩]) (.kill [2, 3, 33, 34, 35, 36, 37]))
  (.cond (.tmp 38) (.ghost (.kill [38]) (.seq (.reg [⟨(some 4), .op (.mv (.const (Value.bool false))), none⟩])
  .ret))
  (.ghost (.kill [38]) .skip)))
  (.seq (.reg [⟨(some 4), .op (.mv (.const (Value.bool true))), none⟩])
  .ret))))))))
theorem cf_laws_eqChecker : chkFn Tryd.prog i_laws_eqChecker ac_laws_eqChecker [.tmp 4] 39 = true := by decide +kernel
def fa_laws_eqChecker : FnA := ⟨ac_laws_eqChecker, [.tmp 4], 39, false, true, [], .any, none⟩

/-- The checked code of laws FnExactCheckerText. -/
def ac_laws_FnExactCheckerText : AC := (.seq (.post (.reg [⟨(some 1), .op (.box true (.tmp 0)), none⟩,
    ⟨(some 2), .op (.mv (.const (Value.bool false))), none⟩]) (.kill [0, 2]))
  (.seq (.reg [⟨(some 3), .op (.mv (.const (Value.int .i64 1048576))), none⟩])
  (.seq (.post (.reg [⟨(some 7), .op (.load 6 true (.tmp 1)), none⟩,
    ⟨(some 8), .op (.mv (.tmp 3)), none⟩,
    ⟨(some 9), .call (.func i_laws_szChecker) [(.tmp 7), (.tmp 8)], none⟩,
    ⟨(some 3), .op (.mv (.tmp 9)), none⟩]) (.kill [7, 8, 9]))
  (.seq (.seq (.post (.reg [⟨(some 10), .op (.mv (.tmp 3)), none⟩,
    ⟨(some 11), .op (.bin .lss (.tmp 10) (.const (Value.int .i64 0))), none⟩]) (.kill [3, 10]))
  (.cond (.tmp 11) (.ghost (.kill [1, 11]) (.seq (.reg [⟨(some 2), .op (.mv (.const (Value.bool true))), none⟩])
  .ret))
  (.ghost (.kill [11]) .skip)))
  (.seq (.post (.reg [⟨(some 12), .op (.load 6 true (.tmp 1)), none⟩,
    ⟨(some 13), .call (.func i_laws_toChecker) [(.tmp 12)], none⟩,
    ⟨(some 14), .call (.func i_spec_CheckerText) [(.tmp 13)], none⟩,
    ⟨(some 4), .op (.mv (.tmp 14)), none⟩]) (.kill [12, 13, 14]))
  (.seq (.post (.reg [⟨(some 15), .op (.load 6 true (.tmp 1)), none⟩,
    ⟨(some 16), .call (.func i_laws_toChecker) [(.tmp 15)], none⟩,
    ⟨(some 5), .op (.alloc (Value.agg #[Value.int .i64 0, Value.int .i64 0, Value.slice none 0 0, Value.slice none 0 0, Value.slice none 0 0, Value.slice none 0 0])), none⟩,
    ⟨none, .op (.store 6 (.tmp 5) (.tmp 16)), none⟩]) (.kill [15, 16]))
  (.seq (.post (.reg [⟨(some 17), .op (.load 6 true (.tmp 5)), none⟩,
    ⟨(some 18), .call (.func i_impl_CheckerText) [(.tmp 17)], none⟩,
    ⟨(some 6), .op (.mv (.tmp 18)), none⟩]) (.kill [17, 18]))
  (.seq (.seq (.post (.reg [⟨(some 19), .op (.mv (.tmp 6)), none⟩,
    ⟨(some 20), .op (.mv (.tmp 4)), none⟩,
    ⟨(some 21), .op (.bin .neq (.tmp 19) (.tmp 20)), none⟩]) (.kill [4, 6, 19, 20]))
  (.cond (.tmp 21) (.ghost (.kill [1, 5, 21]) (.seq (.reg [⟨(some 2), .op (.mv (.const (Value.bool false))), none⟩])
  .ret))
  (.ghost (.kill [21]) .skip)))
  (.seq (.seq (.post (.draw [⟨0, ⟨(some 22), .op (.load 6 true (.tmp 5)), none⟩, []⟩,
    ⟨1, ⟨(some 23), .op (.load 6 true (.tmp 1)), none⟩, []⟩,
    ⟨2, ⟨(some 24), .call (.func i_laws_toChecker) [(.tmp 23)], none⟩, [0]⟩,
    ⟨3, ⟨(some 25), .call (.func i_laws_eqChecker) [(.tmp 22), (.tmp 24)], none⟩, []⟩,
    ⟨4, ⟨(some 26), .op (.un .not (.tmp 25)), none⟩, []⟩]
    [0, 0, 2, 7, 15]) (.kill [1, 5, 22, 23, 24, 25]))
  (.cond (.tmp 26) (.ghost (.kill [26]) (.seq (.reg [⟨(some 2), .op (.mv (.const (Value.bool false))), none⟩])
  .ret))
  (.ghost (.kill [26]) .skip)))
  (.seq (.reg [⟨(some 2), .op (.mv (.const (Value.bool true))), none⟩])
  .ret))))))))))
theorem cf_laws_FnExactCheckerText : chkFn Tryd.prog i_laws_FnExactCheckerText ac_laws_FnExactCheckerText [.tmp 2] 27 = true := by decide +kernel
def fa_laws_FnExactCheckerText : FnA := ⟨ac_laws_FnExactCheckerText, [.tmp 2], 27, false, true, [], .any, none⟩

end Go.Proofs.YtipmgemnjcjobaaDoor
