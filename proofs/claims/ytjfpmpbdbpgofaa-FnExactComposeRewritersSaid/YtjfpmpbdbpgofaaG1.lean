/- The code of the functions, checked against the loaded program; printed by a program (gen2.py). -/
import Derived.Test.YtjfpmpbdbpgofaaProg
import Derived.Test.YtjfpmpbdbpgofaaAw25
import Derived.Test.YtjfpmpbdbpgofaaG0
set_option linter.unusedVariables false
set_option maxRecDepth 100000
namespace Go.Proofs.Ytjfpmpbdbpgofaa
open Aw

/-- The checked code of impl Rewriter  isStructural. -/
def lb_impl_Rewriter_isStructural_0 : AC := (.seq (.reg [⟨(some 12), .op (.bin .lss (.tmp 11) (.const (Value.int .i64 2))), none⟩])
  (.seq (.cond (.tmp 12) (.ghost (.kill [12]) .skip)
  (.ghost (.kill [3, 11, 12]) (.exit 2)))
  (.seq (.block 3 (.seq (.post (.reg [⟨(some 13), .op (.mv (.tmp 11)), none⟩,
    ⟨(some 4), .op (.mv (.tmp 13)), none⟩]) (.kill [13]))
  (.seq (.post (.reg [⟨(some 14), .op (.faddr (.tmp 1) 2), none⟩,
    ⟨(some 15), .op (.load 1 false (.tmp 14)), none⟩,
    ⟨(some 16), .op (.mv (.tmp 3)), none⟩,
    ⟨(some 17), .op (.iaddrS (.tmp 15) (.tmp 16) 1), none⟩,
    ⟨(some 18), .op (.load 1 false (.tmp 17)), none⟩,
    ⟨(some 19), .op (.mv (.tmp 4)), none⟩,
    ⟨(some 20), .op (.iaddrS (.tmp 18) (.tmp 19) 3), none⟩,
    ⟨(some 21), .op (.faddr (.tmp 20) 2), none⟩,
    ⟨(some 22), .op (.load 1 false (.tmp 21)), none⟩,
    ⟨(some 23), .call (.func i_impl_isPending) [(.tmp 22), (.const (Value.int .i64 0)), (.const (Value.int .i64 1))], none⟩,
    ⟨(some 24), .op (.un .not (.tmp 23)), none⟩,
    ⟨(some 25), .op (.mv (.tmp 24)), none⟩,
    ⟨(some 26), .op (.faddr (.tmp 1) 4), some (25, false)⟩,
    ⟨(some 27), .op (.load 1 false (.tmp 26)), some (25, false)⟩,
    ⟨(some 28), .op (.mv (.tmp 3)), some (25, false)⟩,
    ⟨(some 29), .op (.iaddrS (.tmp 27) (.tmp 28) 1), some (25, false)⟩,
    ⟨(some 30), .op (.load 1 false (.tmp 29)), some (25, false)⟩,
    ⟨(some 31), .op (.mv (.tmp 4)), some (25, false)⟩,
    ⟨(some 32), .op (.iaddrS (.tmp 30) (.tmp 31) 2), some (25, false)⟩,
    ⟨(some 33), .op (.faddr (.tmp 32) 1), some (25, false)⟩,
    ⟨(some 34), .op (.load 1 false (.tmp 33)), some (25, false)⟩,
    ⟨(some 35), .call (.func i_impl_isPending) [(.tmp 34), (.const (Value.int .i64 0)), (.const (Value.int .i64 0))], some (25, false)⟩,
    ⟨(some 36), .op (.un .not (.tmp 35)), some (25, false)⟩,
    ⟨(some 37), .op (.pick (.tmp 25) (.const (Value.bool true)) (.tmp 36)), none⟩,
    ⟨(some 38), .op (.mv (.tmp 37)), none⟩,
    ⟨(some 39), .op (.faddr (.tmp 1) 3), some (38, false)⟩,
    ⟨(some 40), .op (.load 1 false (.tmp 39)), some (38, false)⟩,
    ⟨(some 41), .op (.mv (.tmp 3)), some (38, false)⟩,
    ⟨(some 42), .op (.iaddrS (.tmp 40) (.tmp 41) 1), some (38, false)⟩,
    ⟨(some 43), .op (.load 1 false (.tmp 42)), some (38, false)⟩,
    ⟨(some 44), .op (.mv (.tmp 4)), some (38, false)⟩,
    ⟨(some 45), .op (.iaddrS (.tmp 43) (.tmp 44) 1), some (38, false)⟩,
    ⟨(some 46), .op (.load 1 false (.tmp 45)), some (38, false)⟩,
    ⟨(some 47), .call (.func i_slices_ContainsFunc_L_impl_OutMove) [(.tmp 46), (.func i_impl_Rewriter_isStructural_1)], some (38, false)⟩,
    ⟨(some 48), .op (.pick (.tmp 38) (.const (Value.bool true)) (.tmp 47)), none⟩]) (.kill [4, 14, 15, 16, 17, 18, 19, 20, 21, 22, 23, 24, 25, 26, 27, 28, 29, 30, 31, 32, 33, 34, 35, 36, 37, 38, 39, 40, 41, 42, 43, 44, 45, 46, 47]))
  (.cond (.tmp 48) (.ghost (.kill [1, 3, 7, 8, 11, 48]) (.seq (.reg [⟨(some 2), .op (.mv (.const (Value.bool false))), none⟩])
  .ret))
  (.ghost (.kill [48]) .skip)))))
  (.post (.reg [⟨(some 49), .op (.bin .add (.tmp 11) (.const (Value.int .i64 1))), none⟩,
    ⟨(some 11), .op (.mv (.tmp 49)), none⟩]) (.kill [49])))))
def lo_impl_Rewriter_isStructural_0 : AC := (.loop lb_impl_Rewriter_isStructural_0)
def lb_impl_Rewriter_isStructural_1 : AC := (.seq (.reg [⟨(some 9), .op (.bin .lss (.tmp 8) (.tmp 7)), none⟩])
  (.seq (.cond (.tmp 9) (.ghost (.kill [9]) .skip)
  (.ghost (.kill [1, 7, 8, 9]) (.exit 0)))
  (.seq (.block 1 (.seq (.post (.reg [⟨(some 10), .op (.mv (.tmp 8)), none⟩,
    ⟨(some 3), .op (.mv (.tmp 10)), none⟩]) (.kill [10]))
  (.seq (.reg [⟨(some 11), .op (.mv (.const (Value.int .i64 0))), none⟩])
  (.block 2 lo_impl_Rewriter_isStructural_0))))
  (.ghost (.kill [3, 11]) (.post (.reg [⟨(some 50), .op (.bin .add (.tmp 8) (.const (Value.int .i64 1))), none⟩,
    ⟨(some 8), .op (.mv (.tmp 50)), none⟩]) (.kill [50]))))))
def lo_impl_Rewriter_isStructural_1 : AC := (.loop lb_impl_Rewriter_isStructural_1)
def ac_impl_Rewriter_isStructural : AC := (.seq (.post (.reg [⟨(some 1), .op (.box true (.tmp 0)), none⟩,
    ⟨(some 2), .op (.mv (.const (Value.bool false))), none⟩]) (.kill [0, 2]))
  (.seq (.seq (.post (.reg [⟨(some 5), .op (.faddr (.tmp 1) 2), none⟩,
    ⟨(some 6), .op (.load 1 false (.tmp 5)), none⟩,
    ⟨(some 7), .op (.len false (.tmp 6)), none⟩,
    ⟨(some 8), .op (.mv (.const (Value.int .i64 0))), none⟩]) (.kill [5, 6]))
  (.block 0 lo_impl_Rewriter_isStructural_1))
  (.ghost (.kill [1, 7, 8]) (.seq (.reg [⟨(some 2), .op (.mv (.const (Value.bool true))), none⟩])
  .ret))))
theorem cf_impl_Rewriter_isStructural : chkFn Try.prog i_impl_Rewriter_isStructural ac_impl_Rewriter_isStructural [.tmp 2] 51 = true := by decide +kernel
def fa_impl_Rewriter_isStructural : FnA := ⟨ac_impl_Rewriter_isStructural, [.tmp 2], 51, false, true, [], .any, none⟩

/-- The checked code of impl builtRewriter. -/
def lb_impl_builtRewriter_0 : AC := (.seq (.reg [⟨(some 38), .op (.bin .lss (.tmp 37) (.tmp 36)), none⟩])
  (.seq (.cond (.tmp 38) (.ghost (.kill [38]) .skip)
  (.ghost (.kill [36, 37, 38]) (.exit 4)))
  (.seq (.block 5 (.seq (.post (.reg [⟨(some 39), .op (.mv (.tmp 37)), none⟩,
    ⟨(some 20), .op (.mv (.tmp 39)), none⟩]) (.kill [39]))
  (.post (.reg [⟨(some 40), .op (.mv (.tmp 19)), none⟩,
    ⟨(some 41), .op (.mv (.tmp 4)), none⟩,
    ⟨(some 42), .op (.mv (.tmp 14)), none⟩,
    ⟨(some 43), .op (.mv (.tmp 18)), none⟩,
    ⟨(some 44), .op (.mv (.tmp 20)), none⟩,
    ⟨(some 45), .call (.tmp 41) [(.tmp 42), (.tmp 43), (.tmp 44)], none⟩,
    ⟨(some 46), .op (.lits true 2 1 (Value.agg #[Value.int .i64 0, Value.string ⟨#[]⟩]) [(0, (.tmp 45))]), none⟩,
    ⟨(some 47), .op (.append (.tmp 40) (.tmp 46) 2 24), none⟩,
    ⟨(some 19), .op (.mv (.tmp 47)), none⟩]) (.kill [20, 40, 41, 42, 43, 44, 45, 46, 47]))))
  (.post (.reg [⟨(some 48), .op (.bin .add (.tmp 37) (.const (Value.int .i64 1))), none⟩,
    ⟨(some 37), .op (.mv (.tmp 48)), none⟩]) (.kill [48])))))
def lo_impl_builtRewriter_0 : AC := (.loop lb_impl_builtRewriter_0)
def lb_impl_builtRewriter_1 : AC := (.seq (.reg [⟨(some 32), .op (.bin .lss (.tmp 31) (.const (Value.int .i64 2))), none⟩])
  (.seq (.cond (.tmp 32) (.ghost (.kill [32]) .skip)
  (.ghost (.kill [14, 31, 32]) (.exit 2)))
  (.seq (.block 3 (.seq (.post (.reg [⟨(some 33), .op (.mv (.tmp 31)), none⟩,
    ⟨(some 18), .op (.mv (.tmp 33)), none⟩]) (.kill [33]))
  (.seq (.post (.reg [⟨(some 34), .op (.lits true 2 0 (Value.agg #[Value.int .i64 0, Value.string ⟨#[]⟩]) []), none⟩,
    ⟨(some 19), .op (.mv (.tmp 34)), none⟩]) (.kill [34]))
  (.seq (.seq (.post (.reg [⟨(some 35), .op (.mv (.tmp 1)), none⟩,
    ⟨(some 36), .op (.bin .add (.tmp 35) (.const (Value.int .i64 1))), none⟩,
    ⟨(some 37), .op (.mv (.const (Value.int .i64 0))), none⟩]) (.kill [35]))
  (.block 4 (.ghost (.ow 13 (some 2) 1) (.ghost (.ow 13 (some 3) 1) (.ghost (.ow 13 (some 4) 1) (.ghost (.ow 15 none 3) (.ghost (.ow 16 none 1) (.ghost (.ow 17 none 2) (.ghost (.ow 19 none 2) lo_impl_builtRewriter_0)))))))))
  (.ghost (.kill [36, 37]) (.post (.reg [⟨(some 49), .op (.mv (.tmp 15)), none⟩,
    ⟨(some 50), .op (.mv (.tmp 3)), none⟩,
    ⟨(some 51), .op (.mv (.tmp 14)), none⟩,
    ⟨(some 52), .op (.mv (.tmp 18)), none⟩,
    ⟨(some 53), .call (.tmp 50) [(.tmp 51), (.tmp 52)], none⟩,
    ⟨(some 54), .op (.lits true 3 1 (Value.agg #[Value.int .i64 0, Value.int .i64 0, Value.string ⟨#[]⟩]) [(0, (.tmp 53))]), none⟩,
    ⟨(some 55), .op (.append (.tmp 49) (.tmp 54) 3 32), none⟩,
    ⟨(some 56), .op (.mv (.tmp 16)), none⟩,
    ⟨(some 57), .op (.mv (.tmp 19)), none⟩,
    ⟨(some 58), .op (.lits true 1 1 (Value.slice none 0 0) [(0, (.tmp 57))]), none⟩,
    ⟨(some 59), .op (.append (.tmp 56) (.tmp 58) 1 24), none⟩,
    ⟨(some 60), .op (.mv (.tmp 17)), none⟩,
    ⟨(some 61), .op (.mv (.tmp 5)), none⟩,
    ⟨(some 62), .op (.mv (.tmp 14)), none⟩,
    ⟨(some 63), .op (.mv (.tmp 18)), none⟩,
    ⟨(some 64), .call (.tmp 61) [(.tmp 62), (.tmp 63)], none⟩,
    ⟨(some 65), .op (.lits true 2 1 (Value.agg #[Value.int .i64 0, Value.string ⟨#[]⟩]) [(0, (.tmp 64))]), none⟩,
    ⟨(some 66), .op (.append (.tmp 60) (.tmp 65) 2 24), none⟩,
    ⟨(some 15), .op (.mv (.tmp 55)), none⟩,
    ⟨(some 16), .op (.mv (.tmp 59)), none⟩,
    ⟨(some 17), .op (.mv (.tmp 66)), none⟩]) (.kill [18, 19, 49, 50, 51, 52, 53, 54, 55, 56, 57, 58, 59, 60, 61, 62, 63, 64, 65, 66])))))))
  (.post (.reg [⟨(some 67), .op (.bin .add (.tmp 31) (.const (Value.int .i64 1))), none⟩,
    ⟨(some 31), .op (.mv (.tmp 67)), none⟩]) (.kill [67])))))
def lo_impl_builtRewriter_1 : AC := (.loop lb_impl_builtRewriter_1)
def lb_impl_builtRewriter_2 : AC := (.seq (.reg [⟨(some 26), .op (.bin .lss (.tmp 25) (.tmp 24)), none⟩])
  (.seq (.cond (.tmp 26) (.ghost (.kill [26]) .skip)
  (.ghost (.kill [1, 3, 4, 5, 24, 25, 26]) (.exit 0)))
  (.seq (.block 1 (.seq (.post (.reg [⟨(some 27), .op (.mv (.tmp 25)), none⟩,
    ⟨(some 14), .op (.mv (.tmp 27)), none⟩]) (.kill [27]))
  (.seq (.post (.reg [⟨(some 28), .op (.lits true 3 0 (Value.agg #[Value.int .i64 0, Value.int .i64 0, Value.string ⟨#[]⟩]) []), none⟩,
    ⟨(some 29), .op (.lits true 1 0 (Value.slice none 0 0) []), none⟩,
    ⟨(some 30), .op (.lits true 2 0 (Value.agg #[Value.int .i64 0, Value.string ⟨#[]⟩]) []), none⟩,
    ⟨(some 15), .op (.mv (.tmp 28)), none⟩,
    ⟨(some 16), .op (.mv (.tmp 29)), none⟩,
    ⟨(some 17), .op (.mv (.tmp 30)), none⟩]) (.kill [28, 29, 30]))
  (.seq (.seq (.reg [⟨(some 31), .op (.mv (.const (Value.int .i64 0))), none⟩])
  (.block 2 (.ghost (.ow 13 (some 2) 1) (.ghost (.ow 13 (some 3) 1) (.ghost (.ow 13 (some 4) 1) (.ghost (.ow 15 none 3) (.ghost (.ow 16 none 1) (.ghost (.ow 17 none 2) lo_impl_builtRewriter_1))))))))
  (.ghost (.kill [14, 31]) (.post (.draw [⟨0, ⟨(some 68), .op (.faddr (.tmp 13) 2), none⟩, []⟩,
    ⟨1, ⟨(some 69), .op (.load 1 false (.tmp 68)), none⟩, []⟩,
    ⟨2, ⟨(some 70), .op (.mv (.tmp 15)), none⟩, []⟩,
    ⟨3, ⟨(some 71), .op (.lits true 1 1 (Value.slice none 0 0) [(0, (.tmp 70))]), none⟩, []⟩,
    ⟨5, ⟨(some 73), .op (.faddr (.tmp 13) 3), none⟩, []⟩,
    ⟨6, ⟨(some 74), .op (.load 1 false (.tmp 73)), none⟩, []⟩,
    ⟨7, ⟨(some 75), .op (.mv (.tmp 16)), none⟩, []⟩,
    ⟨8, ⟨(some 76), .op (.lits true 1 1 (Value.slice none 0 0) [(0, (.tmp 75))]), none⟩, []⟩,
    ⟨10, ⟨(some 78), .op (.faddr (.tmp 13) 4), none⟩, []⟩,
    ⟨11, ⟨(some 79), .op (.load 1 false (.tmp 78)), none⟩, []⟩,
    ⟨12, ⟨(some 80), .op (.mv (.tmp 17)), none⟩, []⟩,
    ⟨13, ⟨(some 81), .op (.lits true 1 1 (Value.slice none 0 0) [(0, (.tmp 80))]), none⟩, []⟩,
    ⟨4, ⟨(some 72), .op (.append (.tmp 69) (.tmp 71) 1 24), none⟩, [6, 11]⟩,
    ⟨15, ⟨(some 83), .op (.faddr (.tmp 13) 2), none⟩, []⟩,
    ⟨9, ⟨(some 77), .op (.append (.tmp 74) (.tmp 76) 1 24), none⟩, [11]⟩,
    ⟨14, ⟨(some 82), .op (.append (.tmp 79) (.tmp 81) 1 24), none⟩, []⟩,
    ⟨16, ⟨none, .op (.store 1 (.tmp 83) (.tmp 72)), none⟩, []⟩,
    ⟨17, ⟨(some 84), .op (.faddr (.tmp 13) 3), none⟩, []⟩,
    ⟨18, ⟨none, .op (.store 1 (.tmp 84) (.tmp 77)), none⟩, []⟩,
    ⟨19, ⟨(some 85), .op (.faddr (.tmp 13) 4), none⟩, []⟩,
    ⟨20, ⟨none, .op (.store 1 (.tmp 85) (.tmp 82)), none⟩, []⟩]
    [0, 1, 0, 4, 15, 0, 32, 0, 128, 511, 0, 1024, 0, 4096, 16383, 3199, 65535, 131071, 262143, 524287, 1048575]) (.kill [15, 16, 17, 68, 69, 70, 71, 72, 73, 74, 75, 76, 77, 78, 79, 80, 81, 82, 83, 84, 85])))))))
  (.post (.reg [⟨(some 86), .op (.bin .add (.tmp 25) (.const (Value.int .i64 1))), none⟩,
    ⟨(some 25), .op (.mv (.tmp 86)), none⟩]) (.kill [86])))))
def lo_impl_builtRewriter_2 : AC := (.loop lb_impl_builtRewriter_2)
def ac_impl_builtRewriter : AC := (.seq (.reg [⟨(some 12), .op (.alloc (Value.agg #[Value.int .i64 0, Value.int .i64 0, Value.slice none 0 0, Value.slice none 0 0, Value.slice none 0 0])), none⟩])
  (.seq (.post (.reg [⟨(some 21), .op (.mv (.tmp 1)), none⟩,
    ⟨(some 22), .op (.mv (.tmp 2)), none⟩,
    ⟨(some 23), .op (.build [Value.int .i64 0, Value.int .i64 0, Value.slice none 0 0, Value.slice none 0 0, Value.slice none 0 0] [(0, 1, (.tmp 21)), (1, 1, (.tmp 22))]), none⟩,
    ⟨(some 13), .op (.alloc (Value.agg #[Value.int .i64 0, Value.int .i64 0, Value.slice none 0 0, Value.slice none 0 0, Value.slice none 0 0])), none⟩,
    ⟨none, .op (.store 5 (.tmp 13) (.tmp 23)), none⟩]) (.kill [2, 21, 22, 23]))
  (.seq (.seq (.post (.reg [⟨(some 24), .op (.mv (.tmp 0)), none⟩,
    ⟨(some 25), .op (.mv (.const (Value.int .i64 0))), none⟩]) (.kill [0]))
  (.block 0 (.ghost (.ow 13 (some 2) 1) (.ghost (.ow 13 (some 3) 1) (.ghost (.ow 13 (some 4) 1) lo_impl_builtRewriter_2)))))
  (.ghost (.kill [1, 3, 4, 5, 24, 25]) (.seq (.post (.reg [⟨(some 87), .op (.load 5 true (.tmp 13)), none⟩,
    ⟨none, .op (.store 5 (.tmp 12) (.tmp 87)), none⟩]) (.kill [13, 87]))
  .ret)))))
theorem cf_impl_builtRewriter : chkFn Try.prog i_impl_builtRewriter ac_impl_builtRewriter [.cell 12 5 true] 88 = true := by decide +kernel
def fa_impl_builtRewriter : FnA := ⟨ac_impl_builtRewriter, [.cell 12 5 true], 88, false, false, [], .any, none⟩

/-- The checked code of slices Clone   int64 int64 . -/
def ac_slices_Clone_L_int64 : AC := (.seq (.post (.reg [⟨(some 2), .op (.mv (.const (Value.slice none 0 0))), none⟩]) (.kill [2]))
  (.seq (.seq (.post (.reg [⟨(some 3), .op (.mv (.tmp 0)), none⟩,
    ⟨(some 4), .op (.eqnil false false .s (.tmp 3)), none⟩]) (.kill [3]))
  (.cond (.tmp 4) (.ghost (.kill [0, 4]) (.seq (.reg [⟨(some 2), .op (.mv (.const (Value.slice none 0 0))), none⟩])
  .ret))
  (.ghost (.kill [4]) .skip)))
  (.seq (.post (.post (.reg [⟨(some 5), .op (.lits true 1 0 (Value.int .i64 0) []), none⟩,
    ⟨(some 6), .op (.mv (.tmp 0)), none⟩,
    ⟨(some 7), .op (.append (.tmp 5) (.tmp 6) 1 8), none⟩,
    ⟨(some 2), .op (.mv (.tmp 7)), none⟩]) (.kill [0, 5, 6, 7])) .nv)
  .ret)))
theorem cf_slices_Clone_L_int64 : chkFn Try.prog i_slices_Clone_L_int64 ac_slices_Clone_L_int64 [.tmp 2] 8 = true := by decide +kernel
def fa_slices_Clone_L_int64 : FnA := ⟨ac_slices_Clone_L_int64, [.tmp 2], 8, false, false, [], .any, none⟩

/-- The checked code of impl kindOf. -/
def ac_impl_kindOf : AC := (.seq (.post (.reg [⟨(some 2), .op (.mv (.const (Value.int .i64 0))), none⟩]) (.kill [2]))
  (.seq (.post (.reg [⟨(some 3), .op (.mv (.tmp 0)), none⟩,
    ⟨(some 4), .call (.func i_strings_IndexByte) [(.const (Value.string ⟨#[40, 91, 41, 93, 97, 98]⟩)), (.tmp 3)], none⟩,
    ⟨(some 5), .op (.bin .rem (.tmp 4) (.const (Value.int .i64 2))), none⟩,
    ⟨(some 2), .op (.mv (.tmp 5)), none⟩]) (.kill [0, 3, 4, 5]))
  .ret))
theorem cf_impl_kindOf : chkFn Try.prog i_impl_kindOf ac_impl_kindOf [.tmp 2] 6 = true := by decide +kernel
def fa_impl_kindOf : FnA := ⟨ac_impl_kindOf, [.tmp 2], 6, false, true, [], .any, none⟩

/-- The checked code of impl isInner. -/
def ac_impl_isInner : AC := (.seq (.post (.reg [⟨(some 2), .op (.mv (.const (Value.bool false))), none⟩]) (.kill [2]))
  (.seq (.post (.reg [⟨(some 3), .op (.mv (.tmp 0)), none⟩,
    ⟨(some 4), .op (.bin .eql (.tmp 3) (.const (Value.int .u8 97))), none⟩,
    ⟨(some 5), .op (.mv (.tmp 4)), none⟩,
    ⟨(some 6), .op (.mv (.tmp 0)), some (5, false)⟩,
    ⟨(some 7), .op (.bin .eql (.tmp 6) (.const (Value.int .u8 98))), some (5, false)⟩,
    ⟨(some 8), .op (.pick (.tmp 5) (.const (Value.bool true)) (.tmp 7)), none⟩,
    ⟨(some 2), .op (.mv (.tmp 8)), none⟩]) (.kill [0, 3, 4, 5, 6, 7, 8]))
  .ret))
theorem cf_impl_isInner : chkFn Try.prog i_impl_isInner ac_impl_isInner [.tmp 2] 9 = true := by decide +kernel
def fa_impl_isInner : FnA := ⟨ac_impl_isInner, [.tmp 2], 9, false, true, [], .any, none⟩

/-- The checked code of   strings Builder  copyCheck. -/
def ac_P_strings_Builder_copyCheck : AC := (.seq (.post (.reg [⟨(some 2), .op (.mv (.tmp 0)), none⟩,
    ⟨(some 3), .op (.nilc (.tmp 2)), none⟩,
    ⟨(some 4), .op (.faddr (.tmp 3) 0), none⟩,
    ⟨(some 5), .op (.load 1 false (.tmp 4)), none⟩,
    ⟨(some 6), .op (.eqnil false false .p (.tmp 5)), none⟩]) (.kill [2, 3, 4, 5]))
  (.cond (.tmp 6) (.ghost (.kill [6]) (.post (.reg [⟨(some 7), .op (.mv (.tmp 0)), none⟩,
    ⟨(some 8), .op (.mv (.tmp 0)), none⟩,
    ⟨(some 9), .op (.bld .uns [(.tmp 8)]), none⟩,
    ⟨(some 10), .op (.bld (.noesc i_internal_abi_NoEscape) [(.tmp 9)]), none⟩,
    ⟨(some 11), .op (.bld (.funs 306) [(.tmp 10)]), none⟩,
    ⟨(some 12), .op (.nilc (.tmp 7)), none⟩,
    ⟨(some 13), .op (.faddr (.tmp 12) 0), none⟩,
    ⟨none, .op (.store 1 (.tmp 13) (.tmp 11)), none⟩]) (.kill [0, 7, 8, 9, 10, 11, 12, 13])))
  (.ghost (.kill [6]) (.seq (.post (.reg [⟨(some 14), .op (.mv (.tmp 0)), none⟩,
    ⟨(some 15), .op (.nilc (.tmp 14)), none⟩,
    ⟨(some 16), .op (.faddr (.tmp 15) 0), none⟩,
    ⟨(some 17), .op (.load 1 false (.tmp 16)), none⟩,
    ⟨(some 18), .op (.mv (.tmp 0)), none⟩,
    ⟨(some 19), .op (.bld (.eqp true) [(.tmp 17), (.tmp 18)]), none⟩]) (.kill [0, 14, 15, 16, 17, 18]))
  (.cond (.tmp 19) (.ghost (.kill [19]) (.reg [⟨none, .op .bad, none⟩]))
  (.ghost (.kill [19]) .skip))))))
theorem cf_P_strings_Builder_copyCheck : chkFn Try.prog i_P_strings_Builder_copyCheck ac_P_strings_Builder_copyCheck [] 20 = true := by decide +kernel
def fa_P_strings_Builder_copyCheck : FnA := ⟨ac_P_strings_Builder_copyCheck, [], 20, true, false, [], .any, none⟩

/-- The checked code of   strings Builder  WriteString. -/
def ac_P_strings_Builder_WriteString : AC := (.seq (.post (.reg [⟨(some 4), .op (.mv (.const (Value.int .i64 0))), none⟩,
    ⟨(some 5), .op (.mv (.const Value.nilIface)), none⟩]) (.kill [4, 5]))
  (.seq (.post (.reg [⟨(some 6), .op (.mv (.tmp 0)), none⟩,
    ⟨(some 7), .call (.func i_P_strings_Builder_copyCheck) [(.tmp 6)], none⟩]) (.kill [6, 7]))
  (.seq (.post (.reg [⟨(some 8), .op (.mv (.tmp 0)), none⟩,
    ⟨(some 9), .op (.mv (.tmp 0)), none⟩,
    ⟨(some 10), .op (.nilc (.tmp 9)), none⟩,
    ⟨(some 11), .op (.faddr (.tmp 10) 1), none⟩,
    ⟨(some 12), .op (.load 1 false (.tmp 11)), none⟩,
    ⟨(some 13), .op (.mv (.tmp 1)), none⟩,
    ⟨(some 14), .op (.bld (.appn 5 1 1) [(.tmp 12), (.tmp 13)]), none⟩,
    ⟨(some 15), .op (.nilc (.tmp 8)), none⟩,
    ⟨(some 16), .op (.faddr (.tmp 15) 1), none⟩,
    ⟨none, .op (.store 1 (.tmp 16) (.tmp 14)), none⟩]) (.kill [0, 8, 9, 10, 11, 12, 13, 14, 15, 16]))
  (.seq (.post (.reg [⟨(some 17), .op (.mv (.tmp 1)), none⟩,
    ⟨(some 18), .op (.len true (.tmp 17)), none⟩,
    ⟨(some 4), .op (.mv (.tmp 18)), none⟩,
    ⟨(some 5), .op (.mv (.const Value.nilIface)), none⟩]) (.kill [1, 17, 18]))
  .ret))))
theorem cf_P_strings_Builder_WriteString : chkFn Try.prog i_P_strings_Builder_WriteString ac_P_strings_Builder_WriteString [.tmp 4, .tmp 5] 19 = true := by decide +kernel
def fa_P_strings_Builder_WriteString : FnA := ⟨ac_P_strings_Builder_WriteString, [.tmp 4, .tmp 5], 19, true, false, [], .any, none⟩

/-- The checked code of   strings Builder  String. -/
def ac_P_strings_Builder_String : AC := (.seq (.post (.reg [⟨(some 2), .op (.mv (.const (Value.string ⟨#[]⟩))), none⟩]) (.kill [2]))
  (.seq (.post (.draw [⟨0, ⟨(some 3), .op (.mv (.tmp 0)), none⟩, []⟩,
    ⟨1, ⟨(some 4), .op (.nilc (.tmp 3)), none⟩, []⟩,
    ⟨2, ⟨(some 5), .op (.faddr (.tmp 4) 1), none⟩, []⟩,
    ⟨3, ⟨(some 6), .op (.load 1 false (.tmp 5)), none⟩, []⟩,
    ⟨4, ⟨(some 7), .op (.bld .sdata [(.tmp 6)]), none⟩, []⟩,
    ⟨5, ⟨(some 8), .op (.mv (.tmp 0)), none⟩, []⟩,
    ⟨6, ⟨(some 9), .op (.nilc (.tmp 8)), none⟩, []⟩,
    ⟨7, ⟨(some 10), .op (.faddr (.tmp 9) 1), none⟩, []⟩,
    ⟨8, ⟨(some 11), .op (.load 1 false (.tmp 10)), none⟩, []⟩,
    ⟨9, ⟨(some 12), .op (.len false (.tmp 11)), none⟩, []⟩,
    ⟨10, ⟨(some 13), .op (.bld (.ustr 5) [(.tmp 7), (.tmp 12)]), none⟩, []⟩,
    ⟨11, ⟨(some 2), .op (.mv (.tmp 13)), none⟩, []⟩]
    [0, 1, 3, 7, 15, 0, 32, 96, 224, 480, 1023, 2047]) (.kill [0, 3, 4, 5, 6, 7, 8, 9, 10, 11, 12, 13]))
  .ret))
theorem cf_P_strings_Builder_String : chkFn Try.prog i_P_strings_Builder_String ac_P_strings_Builder_String [.tmp 2] 14 = true := by decide +kernel
def fa_P_strings_Builder_String : FnA := ⟨ac_P_strings_Builder_String, [.tmp 2], 14, true, false, [], .any, none⟩

/-- The checked code of impl Rewriter  rewrite. -/
def lb_impl_Rewriter_rewrite_0 : AC := (.post (.seq (.reg [⟨(some 24), .op (.bin .lss (.tmp 23) (.tmp 22)), none⟩])
  (.seq (.cond (.tmp 24) (.ghost (.kill [24]) .skip)
  (.ghost (.kill [3, 4, 22, 23, 24]) (.exit 0)))
  (.seq (.block 1 (.seq (.post (.reg [⟨(some 25), .op (.mv (.tmp 23)), none⟩,
    ⟨(some 12), .op (.mv (.tmp 25)), none⟩]) (.kill [25]))
  (.seq (.post (.reg [⟨(some 26), .op (.mv (.tmp 3)), none⟩,
    ⟨(some 27), .op (.mv (.tmp 12)), none⟩,
    ⟨(some 28), .op (.idxStr (.tmp 26) (.tmp 27)), none⟩,
    ⟨(some 29), .call (.func i_impl_kindOf) [(.tmp 28)], none⟩,
    ⟨(some 30), .op (.build [Value.int .i64 0, Value.string ⟨#[]⟩] []), none⟩,
    ⟨(some 14), .op (.alloc (Value.agg #[Value.int .i64 0, Value.string ⟨#[]⟩])), none⟩,
    ⟨(some 13), .op (.mv (.tmp 29)), none⟩,
    ⟨none, .op (.store 2 (.tmp 14) (.tmp 30)), none⟩]) (.kill [26, 27, 28, 29, 30]))
  (.seq (.block 2 (.seq (.post (.reg [⟨(some 58), .op (.mv (.tmp 3)), none⟩,
    ⟨(some 59), .op (.mv (.tmp 12)), none⟩,
    ⟨(some 60), .op (.idxStr (.tmp 58) (.tmp 59)), none⟩,
    ⟨(some 61), .call (.func i_impl_isCall) [(.tmp 60)], none⟩,
    ⟨(some 57), .op (.mv (.tmp 61)), none⟩]) (.kill [58, 59, 60, 61]))
  (.cond (.tmp 57) (.ghost (.kill [12, 57]) (.seq (.post (.reg [⟨(some 62), .op (.faddr (.tmp 4) 2), none⟩,
    ⟨(some 63), .op (.load 1 false (.tmp 62)), none⟩,
    ⟨(some 64), .op (.mv (.tmp 1)), none⟩,
    ⟨(some 65), .op (.iaddrS (.tmp 63) (.tmp 64) 1), none⟩,
    ⟨(some 66), .op (.load 1 false (.tmp 65)), none⟩,
    ⟨(some 67), .op (.mv (.tmp 13)), none⟩,
    ⟨(some 68), .op (.iaddrS (.tmp 66) (.tmp 67) 3), none⟩,
    ⟨(some 69), .op (.load 3 true (.tmp 68)), none⟩,
    ⟨(some 15), .op (.alloc (Value.agg #[Value.int .i64 0, Value.int .i64 0, Value.string ⟨#[]⟩])), none⟩,
    ⟨none, .op (.store 3 (.tmp 15) (.tmp 69)), none⟩]) (.kill [1, 13, 62, 63, 64, 65, 66, 67, 68, 69]))
  (.post (.post (.draw [⟨0, ⟨(some 70), .op (.faddr (.tmp 15) 0), none⟩, []⟩,
    ⟨1, ⟨(some 71), .op (.load 1 false (.tmp 70)), none⟩, []⟩,
    ⟨2, ⟨(some 72), .op (.faddr (.tmp 15) 2), none⟩, []⟩,
    ⟨3, ⟨(some 73), .op (.load 1 false (.tmp 72)), none⟩, []⟩,
    ⟨4, ⟨(some 74), .op (.build [Value.int .i64 0, Value.string ⟨#[]⟩] [(0, 1, (.tmp 71)), (1, 1, (.tmp 73))]), none⟩, []⟩,
    ⟨5, ⟨(some 75), .op (.mv (.tmp 2)), none⟩, []⟩,
    ⟨6, ⟨(some 76), .op (.faddr (.tmp 15) 1), none⟩, []⟩,
    ⟨7, ⟨(some 77), .op (.load 1 false (.tmp 76)), none⟩, []⟩,
    ⟨8, ⟨(some 78), .op (.lits true 1 1 (Value.int .i64 0) [(0, (.tmp 77))]), none⟩, []⟩,
    ⟨9, ⟨(some 79), .op (.append (.tmp 75) (.tmp 78) 1 8), none⟩, [1, 3]⟩,
    ⟨10, ⟨none, .op (.store 2 (.tmp 14) (.tmp 74)), none⟩, []⟩,
    ⟨11, ⟨(some 2), .op (.mv (.tmp 79)), none⟩, []⟩]
    [0, 1, 0, 4, 15, 0, 0, 64, 192, 480, 1023, 2047]) (.kill [15, 70, 71, 72, 73, 74, 75, 76, 77, 78, 79])) .nv)))
  (.ghost (.kill [57]) (.seq (.post (.reg [⟨(some 81), .op (.mv (.tmp 3)), none⟩,
    ⟨(some 82), .op (.mv (.tmp 12)), none⟩,
    ⟨(some 83), .op (.idxStr (.tmp 81) (.tmp 82)), none⟩,
    ⟨(some 84), .call (.func i_impl_isInner) [(.tmp 83)], none⟩,
    ⟨(some 80), .op (.mv (.tmp 84)), none⟩]) (.kill [12, 81, 82, 83, 84]))
  (.cond (.tmp 80) (.ghost (.kill [80]) (.post (.reg [⟨(some 85), .op (.faddr (.tmp 4) 4), none⟩,
    ⟨(some 86), .op (.load 1 false (.tmp 85)), none⟩,
    ⟨(some 87), .op (.mv (.tmp 1)), none⟩,
    ⟨(some 88), .op (.iaddrS (.tmp 86) (.tmp 87) 1), none⟩,
    ⟨(some 89), .op (.load 1 false (.tmp 88)), none⟩,
    ⟨(some 90), .op (.mv (.tmp 13)), none⟩,
    ⟨(some 91), .op (.iaddrS (.tmp 89) (.tmp 90) 2), none⟩,
    ⟨(some 92), .op (.load 2 true (.tmp 91)), none⟩,
    ⟨none, .op (.store 2 (.tmp 14) (.tmp 92)), none⟩]) (.kill [1, 13, 85, 86, 87, 88, 89, 90, 91, 92])))
  (.ghost (.kill [80]) (.seq (.post (.reg [⟨(some 31), .op (.faddr (.tmp 4) 0), none⟩,
    ⟨(some 32), .op (.load 1 false (.tmp 31)), none⟩,
    ⟨(some 16), .op (.mv (.tmp 32)), none⟩]) (.kill [31, 32]))
  (.seq (.seq (.post (.reg [⟨(some 33), .op (.mv (.tmp 2)), none⟩,
    ⟨(some 34), .op (.len false (.tmp 33)), none⟩,
    ⟨(some 17), .op (.mv (.tmp 34)), none⟩]) (.kill [33, 34]))
  (.seq (.post (.reg [⟨(some 35), .op (.mv (.tmp 17)), none⟩,
    ⟨(some 36), .op (.bin .gtr (.tmp 35) (.const (Value.int .i64 0))), none⟩]) (.kill [35]))
  (.cond (.tmp 36) (.ghost (.kill [16, 36]) (.post (.post (.draw [⟨0, ⟨(some 37), .op (.mv (.tmp 2)), none⟩, []⟩,
    ⟨1, ⟨(some 38), .op (.mv (.tmp 17)), none⟩, []⟩,
    ⟨2, ⟨(some 39), .op (.bin .sub (.tmp 38) (.const (Value.int .i64 1))), none⟩, []⟩,
    ⟨3, ⟨(some 40), .op (.iaddrS (.tmp 37) (.tmp 39) 1), none⟩, []⟩,
    ⟨4, ⟨(some 41), .op (.load 1 false (.tmp 40)), none⟩, []⟩,
    ⟨5, ⟨(some 42), .op (.mv (.tmp 2)), none⟩, []⟩,
    ⟨6, ⟨(some 43), .op (.mv (.tmp 17)), none⟩, []⟩,
    ⟨7, ⟨(some 44), .op (.bin .sub (.tmp 43) (.const (Value.int .i64 1))), none⟩, []⟩,
    ⟨8, ⟨(some 45), .op (.slcS (.tmp 42) none (some (.tmp 44)) none 1), none⟩, []⟩,
    ⟨9, ⟨(some 16), .op (.mv (.tmp 41)), none⟩, []⟩,
    ⟨10, ⟨(some 2), .op (.mv (.tmp 45)), none⟩, []⟩]
    [0, 0, 2, 7, 15, 0, 0, 64, 224, 31, 1023]) (.kill [17, 37, 38, 39, 40, 41, 42, 43, 44, 45])) .nv))
  (.ghost (.kill [17, 36]) .skip))))
  (.post (.reg [⟨(some 46), .op (.faddr (.tmp 4) 3), none⟩,
    ⟨(some 47), .op (.load 1 false (.tmp 46)), none⟩,
    ⟨(some 48), .op (.mv (.tmp 1)), none⟩,
    ⟨(some 49), .op (.iaddrS (.tmp 47) (.tmp 48) 1), none⟩,
    ⟨(some 50), .op (.load 1 false (.tmp 49)), none⟩,
    ⟨(some 51), .op (.mv (.tmp 13)), none⟩,
    ⟨(some 52), .op (.iaddrS (.tmp 50) (.tmp 51) 1), none⟩,
    ⟨(some 53), .op (.load 1 false (.tmp 52)), none⟩,
    ⟨(some 54), .op (.mv (.tmp 16)), none⟩,
    ⟨(some 55), .op (.iaddrS (.tmp 53) (.tmp 54) 2), none⟩,
    ⟨(some 56), .op (.load 2 true (.tmp 55)), none⟩,
    ⟨none, .op (.store 2 (.tmp 14) (.tmp 56)), none⟩]) (.kill [1, 13, 16, 46, 47, 48, 49, 50, 51, 52, 53, 54, 55, 56])))))))))))
  (.seq (.post (.reg [⟨(some 93), .op (.faddr (.tmp 14) 1), none⟩,
    ⟨(some 94), .op (.load 1 false (.tmp 93)), none⟩,
    ⟨(some 95), .call (.func i_P_strings_Builder_WriteString) [(.tmp 11), (.tmp 94)], none⟩]) (.kill [93, 94, 95]))
  (.post (.reg [⟨(some 96), .op (.faddr (.tmp 14) 0), none⟩,
    ⟨(some 97), .op (.load 1 false (.tmp 96)), none⟩,
    ⟨(some 1), .op (.mv (.tmp 97)), none⟩]) (.kill [14, 96, 97])))))))
  (.post (.reg [⟨(some 98), .op (.bin .add (.tmp 23) (.const (Value.int .i64 1))), none⟩,
    ⟨(some 23), .op (.mv (.tmp 98)), none⟩]) (.kill [98]))))) .nv)
def lo_impl_Rewriter_rewrite_0 : AC := (.loop lb_impl_Rewriter_rewrite_0)
def ac_impl_Rewriter_rewrite : AC := (.seq (.post (.reg [⟨(some 4), .op (.box true (.tmp 0)), none⟩,
    ⟨(some 8), .op (.mv (.const (Value.int .i64 0))), none⟩,
    ⟨(some 9), .op (.mv (.const (Value.slice none 0 0))), none⟩,
    ⟨(some 10), .op (.mv (.const (Value.string ⟨#[]⟩))), none⟩]) (.kill [0, 8, 9, 10]))
  (.seq (.post (.reg [⟨(some 18), .op (.mv (.tmp 2)), none⟩,
    ⟨(some 19), .call (.func i_slices_Clone_L_int64) [(.tmp 18)], none⟩,
    ⟨(some 20), .op (.build [Value.pointer none, Value.slice none 0 0] []), none⟩,
    ⟨(some 11), .op (.bld (.allocT 306 (Value.agg #[Value.pointer none, Value.slice none 0 0])) []), none⟩,
    ⟨(some 2), .op (.mv (.tmp 19)), none⟩,
    ⟨none, .op (.store 2 (.tmp 11) (.tmp 20)), none⟩]) (.kill [18, 19, 20]))
  (.seq (.seq (.post (.reg [⟨(some 21), .op (.mv (.tmp 3)), none⟩,
    ⟨(some 22), .op (.len true (.tmp 21)), none⟩,
    ⟨(some 23), .op (.mv (.const (Value.int .i64 0))), none⟩]) (.kill [21]))
  (.post (.block 0 (.ghost (.ow 2 none 1) (.ghost .nv lo_impl_Rewriter_rewrite_0))) .nv))
  (.ghost (.kill [3, 4, 22, 23]) (.seq (.post (.reg [⟨(some 99), .op (.mv (.tmp 1)), none⟩,
    ⟨(some 100), .op (.mv (.tmp 2)), none⟩,
    ⟨(some 101), .call (.func i_P_strings_Builder_String) [(.tmp 11)], none⟩,
    ⟨(some 8), .op (.mv (.tmp 99)), none⟩,
    ⟨(some 9), .op (.mv (.tmp 100)), none⟩,
    ⟨(some 10), .op (.mv (.tmp 101)), none⟩]) (.kill [1, 2, 11, 99, 100, 101]))
  (.ghost .nv .ret))))))
theorem cf_impl_Rewriter_rewrite : chkFn Try.prog i_impl_Rewriter_rewrite ac_impl_Rewriter_rewrite [.tmp 8, .tmp 9, .tmp 10] 102 = true := by decide +kernel
def fa_impl_Rewriter_rewrite : FnA := ⟨ac_impl_Rewriter_rewrite, [.tmp 8, .tmp 9, .tmp 10], 102, false, false, [], .any, none⟩

/-- The checked code of impl ComposeRewriters 1. -/
def ac_impl_ComposeRewriters_1 : AC := (.seq (.reg [⟨(some 8), .op (.alloc (Value.agg #[Value.int .i64 0, Value.int .i64 0, Value.string ⟨#[]⟩])), none⟩])
  (.seq (.post (.draw [⟨0, ⟨(some 13), .op (.faddr (.tmp 2) 2), none⟩, []⟩,
    ⟨1, ⟨(some 14), .op (.load 1 false (.tmp 13)), none⟩, []⟩,
    ⟨2, ⟨(some 15), .op (.mv (.tmp 0)), none⟩, []⟩,
    ⟨3, ⟨(some 16), .op (.load 1 false (.tmp 3)), none⟩, []⟩,
    ⟨4, ⟨(some 17), .op (.bin .quo (.tmp 15) (.tmp 16)), none⟩, []⟩,
    ⟨5, ⟨(some 18), .op (.iaddrS (.tmp 14) (.tmp 17) 1), none⟩, []⟩,
    ⟨6, ⟨(some 19), .op (.load 1 false (.tmp 18)), none⟩, []⟩,
    ⟨7, ⟨(some 20), .op (.mv (.tmp 1)), none⟩, []⟩,
    ⟨8, ⟨(some 21), .op (.iaddrS (.tmp 19) (.tmp 20) 3), none⟩, []⟩,
    ⟨9, ⟨(some 22), .op (.load 3 true (.tmp 21)), none⟩, []⟩,
    ⟨10, ⟨(some 9), .op (.alloc (Value.agg #[Value.int .i64 0, Value.int .i64 0, Value.string ⟨#[]⟩])), none⟩, [1, 3, 5, 6, 8, 9]⟩,
    ⟨11, ⟨none, .op (.store 3 (.tmp 9) (.tmp 22)), none⟩, []⟩]
    [0, 1, 0, 0, 12, 31, 63, 0, 255, 511, 0, 2047]) (.kill [1, 2, 13, 14, 15, 16, 17, 18, 19, 20, 21, 22]))
  (.seq (.post (.draw [⟨0, ⟨(some 24), .op (.load 5 true (.tmp 4)), none⟩, []⟩,
    ⟨1, ⟨(some 25), .op (.mv (.tmp 0)), none⟩, []⟩,
    ⟨2, ⟨(some 26), .op (.load 1 false (.tmp 3)), none⟩, []⟩,
    ⟨3, ⟨(some 27), .op (.bin .rem (.tmp 25) (.tmp 26)), none⟩, []⟩,
    ⟨4, ⟨(some 28), .op (.faddr (.tmp 9) 2), none⟩, []⟩,
    ⟨5, ⟨(some 29), .op (.load 1 false (.tmp 28)), none⟩, []⟩,
    ⟨6, ⟨(some 30), .call (.func i_impl_Rewriter_rewrite) [(.tmp 24), (.tmp 27), (.const (Value.slice none 0 0)), (.tmp 29)], none⟩, []⟩,
    ⟨7, ⟨(some 23), .op (.mv (.tmp 30)), none⟩, []⟩,
    ⟨8, ⟨(some 31), .op (.ext (.tmp 23) 0), none⟩, []⟩,
    ⟨9, ⟨(some 32), .op (.ext (.tmp 23) 1), none⟩, []⟩,
    ⟨10, ⟨(some 33), .op (.ext (.tmp 23) 2), none⟩, []⟩,
    ⟨11, ⟨(some 10), .op (.mv (.tmp 31)), none⟩, []⟩,
    ⟨12, ⟨(some 11), .op (.mv (.tmp 32)), none⟩, []⟩,
    ⟨13, ⟨(some 12), .op (.mv (.tmp 33)), none⟩, []⟩]
    [0, 0, 0, 6, 0, 16, 63, 127, 255, 255, 255, 511, 3071, 8191]) (.kill [0, 4, 23, 24, 25, 26, 27, 28, 29, 30, 31, 32, 33]))
  (.seq (.post (.draw [⟨0, ⟨(some 34), .op (.faddr (.tmp 9) 0), none⟩, []⟩,
    ⟨1, ⟨(some 35), .op (.load 1 false (.tmp 34)), none⟩, []⟩,
    ⟨2, ⟨(some 36), .op (.load 1 false (.tmp 3)), none⟩, []⟩,
    ⟨3, ⟨(some 37), .op (.bin .mul (.tmp 35) (.tmp 36)), none⟩, []⟩,
    ⟨4, ⟨(some 38), .op (.mv (.tmp 10)), none⟩, []⟩,
    ⟨5, ⟨(some 39), .op (.bin .add (.tmp 37) (.tmp 38)), none⟩, []⟩,
    ⟨6, ⟨(some 40), .op (.faddr (.tmp 9) 1), none⟩, []⟩,
    ⟨7, ⟨(some 41), .op (.load 1 false (.tmp 40)), none⟩, []⟩,
    ⟨8, ⟨(some 42), .op (.load 1 false (.tmp 5)), none⟩, []⟩,
    ⟨9, ⟨(some 43), .op (.bin .mul (.tmp 41) (.tmp 42)), none⟩, []⟩,
    ⟨10, ⟨(some 44), .op (.mv (.tmp 11)), none⟩, []⟩,
    ⟨11, ⟨(some 45), .op (.iaddrS (.tmp 44) (.const (Value.int .i64 0)) 1), none⟩, []⟩,
    ⟨12, ⟨(some 46), .op (.load 1 false (.tmp 45)), none⟩, []⟩,
    ⟨13, ⟨(some 47), .op (.bin .add (.tmp 43) (.tmp 46)), none⟩, []⟩,
    ⟨14, ⟨(some 48), .op (.mv (.tmp 12)), none⟩, []⟩,
    ⟨15, ⟨(some 49), .op (.build [Value.int .i64 0, Value.int .i64 0, Value.string ⟨#[]⟩] [(0, 1, (.tmp 39)), (1, 1, (.tmp 47)), (2, 1, (.tmp 48))]), none⟩, []⟩,
    ⟨16, ⟨none, .op (.store 3 (.tmp 8) (.tmp 49)), none⟩, []⟩]
    [0, 1, 0, 7, 0, 31, 0, 64, 0, 448, 0, 1024, 3072, 8128, 0, 32767, 65535]) (.kill [3, 5, 9, 10, 11, 12, 34, 35, 36, 37, 38, 39, 40, 41, 42, 43, 44, 45, 46, 47, 48, 49]))
  .ret))))
theorem cf_impl_ComposeRewriters_1 : chkFn Try.prog i_impl_ComposeRewriters_1 ac_impl_ComposeRewriters_1 [.cell 8 3 true] 50 = true := by decide +kernel
def fa_impl_ComposeRewriters_1 : FnA := ⟨ac_impl_ComposeRewriters_1, [.cell 8 3 true], 50, false, true, [], .any, none⟩

/-- The checked code of impl marksOf. -/
def ac_impl_marksOf : AC := (.seq (.post (.reg [⟨(some 6), .op (.mv (.const (Value.int .i64 0))), none⟩,
    ⟨(some 7), .op (.mv (.const (Value.slice none 0 0))), none⟩]) (.kill [6, 7]))
  (.seq (.seq (.post (.reg [⟨(some 8), .op (.mv (.tmp 0)), none⟩,
    ⟨(some 9), .op (.mv (.tmp 1)), none⟩,
    ⟨(some 10), .op (.mv (.tmp 2)), none⟩,
    ⟨(some 11), .op (.bin .mul (.tmp 9) (.tmp 10)), none⟩,
    ⟨(some 12), .op (.bin .eql (.tmp 8) (.tmp 11)), none⟩]) (.kill [8, 9, 10, 11]))
  (.cond (.tmp 12) (.ghost (.kill [0, 2, 12]) (.seq (.post (.reg [⟨(some 13), .op (.mv (.tmp 1)), none⟩,
    ⟨(some 6), .op (.mv (.tmp 13)), none⟩,
    ⟨(some 7), .op (.mv (.const (Value.slice none 0 0))), none⟩]) (.kill [1, 13]))
  .ret))
  (.ghost (.kill [1, 12]) .skip)))
  (.seq (.post (.draw [⟨0, ⟨(some 14), .op (.mv (.tmp 0)), none⟩, []⟩,
    ⟨1, ⟨(some 15), .op (.mv (.tmp 2)), none⟩, []⟩,
    ⟨2, ⟨(some 16), .op (.bin .quo (.tmp 14) (.tmp 15)), none⟩, []⟩,
    ⟨3, ⟨(some 17), .op (.mv (.tmp 0)), none⟩, []⟩,
    ⟨4, ⟨(some 18), .op (.mv (.tmp 2)), none⟩, []⟩,
    ⟨5, ⟨(some 19), .op (.bin .rem (.tmp 17) (.tmp 18)), none⟩, []⟩,
    ⟨7, ⟨(some 6), .op (.mv (.tmp 16)), none⟩, []⟩,
    ⟨6, ⟨(some 20), .op (.lits false 1 1 (Value.int .i64 0) [(0, (.tmp 19))]), none⟩, []⟩,
    ⟨8, ⟨(some 7), .op (.mv (.tmp 20)), none⟩, []⟩]
    [0, 0, 3, 0, 0, 24, 56, 7, 255]) (.kill [0, 2, 14, 15, 16, 17, 18, 19, 20]))
  .ret)))
theorem cf_impl_marksOf : chkFn Try.prog i_impl_marksOf ac_impl_marksOf [.tmp 6, .tmp 7] 21 = true := by decide +kernel
def fa_impl_marksOf : FnA := ⟨ac_impl_marksOf, [.tmp 6, .tmp 7], 21, false, true, [], .any, none⟩

/-- The checked code of impl ComposeRewriters 2. -/
def ac_impl_ComposeRewriters_2 : AC := (.seq (.reg [⟨(some 10), .op (.alloc (Value.agg #[Value.int .i64 0, Value.string ⟨#[]⟩])), none⟩])
  (.seq (.post (.reg [⟨(some 18), .op (.mv (.tmp 2)), none⟩,
    ⟨(some 19), .op (.faddr (.tmp 3) 0), none⟩,
    ⟨(some 20), .op (.load 1 false (.tmp 19)), none⟩,
    ⟨(some 21), .op (.load 1 false (.tmp 4)), none⟩,
    ⟨(some 22), .call (.func i_impl_marksOf) [(.tmp 18), (.tmp 20), (.tmp 21)], none⟩,
    ⟨(some 17), .op (.mv (.tmp 22)), none⟩,
    ⟨(some 23), .op (.ext (.tmp 17) 0), none⟩,
    ⟨(some 24), .op (.ext (.tmp 17) 1), none⟩,
    ⟨(some 11), .op (.mv (.tmp 23)), none⟩,
    ⟨(some 12), .op (.mv (.tmp 24)), none⟩]) (.kill [2, 4, 17, 18, 19, 20, 21, 22, 23, 24]))
  (.seq (.post (.draw [⟨0, ⟨(some 25), .op (.faddr (.tmp 3) 3), none⟩, []⟩,
    ⟨1, ⟨(some 26), .op (.load 1 false (.tmp 25)), none⟩, []⟩,
    ⟨2, ⟨(some 27), .op (.mv (.tmp 0)), none⟩, []⟩,
    ⟨3, ⟨(some 28), .op (.load 1 false (.tmp 5)), none⟩, []⟩,
    ⟨4, ⟨(some 29), .op (.bin .quo (.tmp 27) (.tmp 28)), none⟩, []⟩,
    ⟨5, ⟨(some 30), .op (.iaddrS (.tmp 26) (.tmp 29) 1), none⟩, []⟩,
    ⟨6, ⟨(some 31), .op (.load 1 false (.tmp 30)), none⟩, []⟩,
    ⟨7, ⟨(some 32), .op (.mv (.tmp 1)), none⟩, []⟩,
    ⟨8, ⟨(some 33), .op (.iaddrS (.tmp 31) (.tmp 32) 1), none⟩, []⟩,
    ⟨9, ⟨(some 34), .op (.load 1 false (.tmp 33)), none⟩, []⟩,
    ⟨10, ⟨(some 35), .op (.mv (.tmp 11)), none⟩, []⟩,
    ⟨11, ⟨(some 36), .op (.iaddrS (.tmp 34) (.tmp 35) 2), none⟩, []⟩,
    ⟨12, ⟨(some 37), .op (.load 2 true (.tmp 36)), none⟩, []⟩,
    ⟨13, ⟨(some 13), .op (.alloc (Value.agg #[Value.int .i64 0, Value.string ⟨#[]⟩])), none⟩, [1, 3, 5, 6, 8, 9, 11, 12]⟩,
    ⟨14, ⟨none, .op (.store 2 (.tmp 13) (.tmp 37)), none⟩, []⟩]
    [0, 1, 0, 0, 12, 31, 63, 0, 255, 511, 0, 2047, 4095, 0, 16383]) (.kill [1, 3, 11, 25, 26, 27, 28, 29, 30, 31, 32, 33, 34, 35, 36, 37]))
  (.seq (.post (.draw [⟨0, ⟨(some 39), .op (.load 5 true (.tmp 6)), none⟩, []⟩,
    ⟨1, ⟨(some 40), .op (.mv (.tmp 0)), none⟩, []⟩,
    ⟨2, ⟨(some 41), .op (.load 1 false (.tmp 5)), none⟩, []⟩,
    ⟨3, ⟨(some 42), .op (.bin .rem (.tmp 40) (.tmp 41)), none⟩, []⟩,
    ⟨4, ⟨(some 43), .op (.mv (.tmp 12)), none⟩, []⟩,
    ⟨5, ⟨(some 44), .op (.faddr (.tmp 13) 1), none⟩, []⟩,
    ⟨6, ⟨(some 45), .op (.load 1 false (.tmp 44)), none⟩, []⟩,
    ⟨7, ⟨(some 46), .call (.func i_impl_Rewriter_rewrite) [(.tmp 39), (.tmp 42), (.tmp 43), (.tmp 45)], none⟩, []⟩,
    ⟨8, ⟨(some 38), .op (.mv (.tmp 46)), none⟩, []⟩,
    ⟨9, ⟨(some 47), .op (.ext (.tmp 38) 0), none⟩, []⟩,
    ⟨10, ⟨(some 48), .op (.ext (.tmp 38) 1), none⟩, []⟩,
    ⟨11, ⟨(some 49), .op (.ext (.tmp 38) 2), none⟩, []⟩,
    ⟨12, ⟨(some 14), .op (.mv (.tmp 47)), none⟩, []⟩,
    ⟨13, ⟨(some 15), .op (.mv (.tmp 48)), none⟩, []⟩,
    ⟨14, ⟨(some 16), .op (.mv (.tmp 49)), none⟩, []⟩]
    [0, 0, 0, 6, 0, 0, 32, 127, 255, 511, 511, 511, 1023, 6143, 16383]) (.kill [0, 6, 12, 15, 38, 39, 40, 41, 42, 43, 44, 45, 46, 47, 48, 49]))
  (.seq (.post (.reg [⟨(some 50), .op (.faddr (.tmp 13) 0), none⟩,
    ⟨(some 51), .op (.load 1 false (.tmp 50)), none⟩,
    ⟨(some 52), .op (.load 1 false (.tmp 5)), none⟩,
    ⟨(some 53), .op (.bin .mul (.tmp 51) (.tmp 52)), none⟩,
    ⟨(some 54), .op (.mv (.tmp 14)), none⟩,
    ⟨(some 55), .op (.bin .add (.tmp 53) (.tmp 54)), none⟩,
    ⟨(some 56), .op (.mv (.tmp 16)), none⟩,
    ⟨(some 57), .op (.build [Value.int .i64 0, Value.string ⟨#[]⟩] [(0, 1, (.tmp 55)), (1, 1, (.tmp 56))]), none⟩,
    ⟨none, .op (.store 2 (.tmp 10) (.tmp 57)), none⟩]) (.kill [5, 13, 14, 16, 50, 51, 52, 53, 54, 55, 56, 57]))
  .ret)))))
theorem cf_impl_ComposeRewriters_2 : chkFn Try.prog i_impl_ComposeRewriters_2 ac_impl_ComposeRewriters_2 [.cell 10 2 true] 58 = true := by decide +kernel
def fa_impl_ComposeRewriters_2 : FnA := ⟨ac_impl_ComposeRewriters_2, [.cell 10 2 true], 58, false, true, [], .any, none⟩

/-- The checked code of impl ComposeRewriters 3. -/
def ac_impl_ComposeRewriters_3 : AC := (.seq (.reg [⟨(some 7), .op (.alloc (Value.agg #[Value.int .i64 0, Value.string ⟨#[]⟩])), none⟩])
  (.seq (.post (.draw [⟨0, ⟨(some 12), .op (.faddr (.tmp 2) 4), none⟩, []⟩,
    ⟨1, ⟨(some 13), .op (.load 1 false (.tmp 12)), none⟩, []⟩,
    ⟨2, ⟨(some 14), .op (.mv (.tmp 0)), none⟩, []⟩,
    ⟨3, ⟨(some 15), .op (.load 1 false (.tmp 3)), none⟩, []⟩,
    ⟨4, ⟨(some 16), .op (.bin .quo (.tmp 14) (.tmp 15)), none⟩, []⟩,
    ⟨5, ⟨(some 17), .op (.iaddrS (.tmp 13) (.tmp 16) 1), none⟩, []⟩,
    ⟨6, ⟨(some 18), .op (.load 1 false (.tmp 17)), none⟩, []⟩,
    ⟨7, ⟨(some 19), .op (.mv (.tmp 1)), none⟩, []⟩,
    ⟨8, ⟨(some 20), .op (.iaddrS (.tmp 18) (.tmp 19) 2), none⟩, []⟩,
    ⟨9, ⟨(some 21), .op (.load 2 true (.tmp 20)), none⟩, []⟩,
    ⟨10, ⟨(some 8), .op (.alloc (Value.agg #[Value.int .i64 0, Value.string ⟨#[]⟩])), none⟩, [1, 3, 5, 6, 8, 9]⟩,
    ⟨11, ⟨none, .op (.store 2 (.tmp 8) (.tmp 21)), none⟩, []⟩]
    [0, 1, 0, 0, 12, 31, 63, 0, 255, 511, 0, 2047]) (.kill [1, 2, 12, 13, 14, 15, 16, 17, 18, 19, 20, 21]))
  (.seq (.post (.draw [⟨0, ⟨(some 23), .op (.load 5 true (.tmp 4)), none⟩, []⟩,
    ⟨1, ⟨(some 24), .op (.mv (.tmp 0)), none⟩, []⟩,
    ⟨2, ⟨(some 25), .op (.load 1 false (.tmp 3)), none⟩, []⟩,
    ⟨3, ⟨(some 26), .op (.bin .rem (.tmp 24) (.tmp 25)), none⟩, []⟩,
    ⟨4, ⟨(some 27), .op (.faddr (.tmp 8) 1), none⟩, []⟩,
    ⟨5, ⟨(some 28), .op (.load 1 false (.tmp 27)), none⟩, []⟩,
    ⟨6, ⟨(some 29), .call (.func i_impl_Rewriter_rewrite) [(.tmp 23), (.tmp 26), (.const (Value.slice none 0 0)), (.tmp 28)], none⟩, []⟩,
    ⟨7, ⟨(some 22), .op (.mv (.tmp 29)), none⟩, []⟩,
    ⟨8, ⟨(some 30), .op (.ext (.tmp 22) 0), none⟩, []⟩,
    ⟨9, ⟨(some 31), .op (.ext (.tmp 22) 1), none⟩, []⟩,
    ⟨10, ⟨(some 32), .op (.ext (.tmp 22) 2), none⟩, []⟩,
    ⟨11, ⟨(some 9), .op (.mv (.tmp 30)), none⟩, []⟩,
    ⟨12, ⟨(some 10), .op (.mv (.tmp 31)), none⟩, []⟩,
    ⟨13, ⟨(some 11), .op (.mv (.tmp 32)), none⟩, []⟩]
    [0, 0, 0, 6, 0, 16, 63, 127, 255, 255, 255, 511, 3071, 8191]) (.kill [0, 4, 10, 22, 23, 24, 25, 26, 27, 28, 29, 30, 31, 32]))
  (.seq (.post (.reg [⟨(some 33), .op (.faddr (.tmp 8) 0), none⟩,
    ⟨(some 34), .op (.load 1 false (.tmp 33)), none⟩,
    ⟨(some 35), .op (.load 1 false (.tmp 3)), none⟩,
    ⟨(some 36), .op (.bin .mul (.tmp 34) (.tmp 35)), none⟩,
    ⟨(some 37), .op (.mv (.tmp 9)), none⟩,
    ⟨(some 38), .op (.bin .add (.tmp 36) (.tmp 37)), none⟩,
    ⟨(some 39), .op (.mv (.tmp 11)), none⟩,
    ⟨(some 40), .op (.build [Value.int .i64 0, Value.string ⟨#[]⟩] [(0, 1, (.tmp 38)), (1, 1, (.tmp 39))]), none⟩,
    ⟨none, .op (.store 2 (.tmp 7) (.tmp 40)), none⟩]) (.kill [3, 8, 9, 11, 33, 34, 35, 36, 37, 38, 39, 40]))
  .ret))))
theorem cf_impl_ComposeRewriters_3 : chkFn Try.prog i_impl_ComposeRewriters_3 ac_impl_ComposeRewriters_3 [.cell 7 2 true] 41 = true := by decide +kernel
def fa_impl_ComposeRewriters_3 : FnA := ⟨ac_impl_ComposeRewriters_3, [.cell 7 2 true], 41, false, true, [], .any, none⟩

/-- The checked code of impl ComposeRewriters. -/
def ac_impl_ComposeRewriters : AC := (.seq (.post (.reg [⟨(some 2), .op (.box true (.tmp 0)), none⟩,
    ⟨(some 3), .op (.box true (.tmp 1)), none⟩,
    ⟨(some 4), .op (.alloc (Value.agg #[Value.int .i64 0, Value.int .i64 0, Value.slice none 0 0, Value.slice none 0 0, Value.slice none 0 0])), none⟩,
    ⟨(some 5), .op (.mv (.const (Value.int .i64 0))), none⟩]) (.kill [0, 1, 5]))
  (.seq (.post (.draw [⟨0, ⟨(some 9), .op (.faddr (.tmp 3) 2), none⟩, []⟩,
    ⟨1, ⟨(some 10), .op (.load 1 false (.tmp 9)), none⟩, []⟩,
    ⟨3, ⟨(some 12), .op (.faddr (.tmp 3) 0), none⟩, []⟩,
    ⟨4, ⟨(some 13), .op (.load 1 false (.tmp 12)), none⟩, []⟩,
    ⟨2, ⟨(some 11), .call (.func i_impl_size_L_impl_OutPush) [(.tmp 10)], none⟩, [4]⟩,
    ⟨5, ⟨(some 6), .op (.alloc (Value.int .i64 0)), none⟩, [1, 4]⟩,
    ⟨6, ⟨(some 7), .op (.alloc (Value.int .i64 0)), none⟩, [1, 4]⟩,
    ⟨7, ⟨none, .op (.store 1 (.tmp 6) (.tmp 11)), none⟩, [4]⟩,
    ⟨8, ⟨none, .op (.store 1 (.tmp 7) (.tmp 13)), none⟩, []⟩]
    [0, 1, 3, 0, 8, 0, 0, 103, 255]) (.kill [9, 10, 11, 12, 13]))
  (.seq (.block 0 (.seq (.post (.reg [⟨(some 15), .op (.load 5 true (.tmp 2)), none⟩,
    ⟨(some 16), .call (.func i_impl_ValidRewriter) [(.tmp 15)], none⟩,
    ⟨(some 17), .op (.un .not (.tmp 16)), none⟩,
    ⟨(some 18), .op (.mv (.tmp 17)), none⟩,
    ⟨(some 19), .op (.load 5 true (.tmp 3)), some (18, false)⟩,
    ⟨(some 20), .call (.func i_impl_ValidRewriter) [(.tmp 19)], some (18, false)⟩,
    ⟨(some 21), .op (.un .not (.tmp 20)), some (18, false)⟩,
    ⟨(some 22), .op (.pick (.tmp 18) (.const (Value.bool true)) (.tmp 21)), none⟩,
    ⟨(some 14), .op (.mv (.tmp 22)), none⟩]) (.kill [15, 16, 17, 18, 19, 20, 21, 22]))
  (.cond (.tmp 14) (.ghost (.kill [2, 3, 6, 7, 14]) (.seq (.post (.reg [⟨(some 23), .op (.build [Value.int .i64 0, Value.int .i64 0, Value.slice none 0 0, Value.slice none 0 0, Value.slice none 0 0] []), none⟩,
    ⟨none, .op (.store 5 (.tmp 4) (.tmp 23)), none⟩,
    ⟨(some 5), .op (.mv (.const (Value.int .i64 1))), none⟩]) (.kill [23]))
  .ret))
  (.ghost (.kill [14]) (.seq (.post (.reg [⟨(some 25), .op (.load 5 true (.tmp 2)), none⟩,
    ⟨(some 26), .call (.func i_impl_Rewriter_isStructural) [(.tmp 25)], none⟩,
    ⟨(some 27), .op (.un .not (.tmp 26)), none⟩,
    ⟨(some 24), .op (.mv (.tmp 27)), none⟩]) (.kill [25, 26, 27]))
  (.cond (.tmp 24) (.ghost (.kill [2, 3, 6, 7, 24]) (.seq (.post (.reg [⟨(some 28), .op (.build [Value.int .i64 0, Value.int .i64 0, Value.slice none 0 0, Value.slice none 0 0, Value.slice none 0 0] []), none⟩,
    ⟨none, .op (.store 5 (.tmp 4) (.tmp 28)), none⟩,
    ⟨(some 5), .op (.mv (.const (Value.int .i64 4))), none⟩]) (.kill [28]))
  .ret))
  (.ghost (.kill [24]) (.seq (.post (.draw [⟨0, ⟨(some 30), .op (.faddr (.tmp 2) 2), none⟩, []⟩,
    ⟨1, ⟨(some 31), .op (.load 1 false (.tmp 30)), none⟩, []⟩,
    ⟨3, ⟨(some 33), .op (.load 1 false (.tmp 6)), none⟩, []⟩,
    ⟨2, ⟨(some 32), .call (.func i_impl_size_L_impl_OutPush) [(.tmp 31)], none⟩, [3]⟩,
    ⟨4, ⟨(some 34), .op (.bin .mul (.tmp 32) (.tmp 33)), none⟩, []⟩,
    ⟨5, ⟨(some 35), .op (.bin .gtr (.tmp 34) (.const (Value.int .i64 8))), none⟩, []⟩,
    ⟨6, ⟨(some 36), .op (.mv (.tmp 35)), none⟩, []⟩,
    ⟨7, ⟨(some 37), .op (.faddr (.tmp 2) 0), some (36, false)⟩, []⟩,
    ⟨8, ⟨(some 38), .op (.load 1 false (.tmp 37)), some (36, false)⟩, []⟩,
    ⟨9, ⟨(some 39), .op (.load 1 false (.tmp 7)), some (36, false)⟩, []⟩,
    ⟨10, ⟨(some 40), .op (.bin .mul (.tmp 38) (.tmp 39)), some (36, false)⟩, []⟩,
    ⟨11, ⟨(some 41), .op (.bin .gtr (.tmp 40) (.const (Value.int .i64 8))), some (36, false)⟩, []⟩,
    ⟨12, ⟨(some 42), .op (.pick (.tmp 36) (.const (Value.bool true)) (.tmp 41)), none⟩, []⟩,
    ⟨13, ⟨(some 29), .op (.mv (.tmp 42)), none⟩, []⟩]
    [0, 1, 3, 0, 15, 31, 63, 127, 255, 127, 1023, 2047, 4095, 8191]) (.kill [30, 31, 32, 33, 34, 35, 36, 37, 38, 39, 40, 41, 42]))
  (.cond (.tmp 29) (.ghost (.kill [2, 3, 6, 7, 29]) (.seq (.post (.reg [⟨(some 43), .op (.build [Value.int .i64 0, Value.int .i64 0, Value.slice none 0 0, Value.slice none 0 0, Value.slice none 0 0] []), none⟩,
    ⟨none, .op (.store 5 (.tmp 4) (.tmp 43)), none⟩,
    ⟨(some 5), .op (.mv (.const (Value.int .i64 3))), none⟩]) (.kill [43]))
  .ret))
  (.ghost (.kill [29]) .skip))))))))))
  (.seq (.post (.draw [⟨0, ⟨(some 44), .op (.faddr (.tmp 2) 2), none⟩, []⟩,
    ⟨1, ⟨(some 45), .op (.load 1 false (.tmp 44)), none⟩, []⟩,
    ⟨3, ⟨(some 47), .op (.load 1 false (.tmp 6)), none⟩, []⟩,
    ⟨5, ⟨(some 49), .op (.faddr (.tmp 2) 0), none⟩, []⟩,
    ⟨6, ⟨(some 50), .op (.load 1 false (.tmp 49)), none⟩, []⟩,
    ⟨7, ⟨(some 51), .op (.load 1 false (.tmp 7)), none⟩, []⟩,
    ⟨8, ⟨(some 52), .op (.bin .mul (.tmp 50) (.tmp 51)), none⟩, []⟩,
    ⟨9, ⟨(some 53), .op (.faddr (.tmp 2) 1), none⟩, []⟩,
    ⟨10, ⟨(some 54), .op (.load 1 false (.tmp 53)), none⟩, []⟩,
    ⟨11, ⟨(some 55), .op (.load 1 false (.tmp 6)), none⟩, []⟩,
    ⟨12, ⟨(some 56), .op (.bin .mul (.tmp 54) (.tmp 55)), none⟩, []⟩,
    ⟨13, ⟨(some 57), .op (.faddr (.tmp 3) 1), none⟩, []⟩,
    ⟨14, ⟨(some 58), .op (.load 1 false (.tmp 57)), none⟩, []⟩,
    ⟨15, ⟨(some 59), .op (.bin .add (.tmp 56) (.tmp 58)), none⟩, []⟩,
    ⟨16, ⟨(some 60), .op (.mkfn i_impl_ComposeRewriters_1 [(.tmp 2), (.tmp 6), (.tmp 3), (.tmp 7)]), none⟩, []⟩,
    ⟨17, ⟨(some 61), .op (.mkfn i_impl_ComposeRewriters_2 [(.tmp 2), (.tmp 7), (.tmp 6), (.tmp 3)]), none⟩, []⟩,
    ⟨18, ⟨(some 62), .op (.mkfn i_impl_ComposeRewriters_3 [(.tmp 2), (.tmp 6), (.tmp 3)]), none⟩, []⟩,
    ⟨2, ⟨(some 46), .call (.func i_impl_size_L_impl_OutPush) [(.tmp 45)], none⟩, [3, 6, 7, 10, 11, 14]⟩,
    ⟨4, ⟨(some 48), .op (.bin .mul (.tmp 46) (.tmp 47)), none⟩, []⟩,
    ⟨19, ⟨(some 63), .call (.func i_impl_builtRewriter) [(.tmp 48), (.tmp 52), (.tmp 59), (.tmp 60), (.tmp 61), (.tmp 62)], none⟩, []⟩,
    ⟨20, ⟨(some 8), .op (.alloc (Value.agg #[Value.int .i64 0, Value.int .i64 0, Value.slice none 0 0, Value.slice none 0 0, Value.slice none 0 0])), none⟩, [1, 3, 6, 7, 10, 11, 14]⟩,
    ⟨21, ⟨none, .op (.store 5 (.tmp 8) (.tmp 63)), none⟩, []⟩]
    [0, 1, 3, 0, 15, 0, 32, 0, 224, 0, 512, 0, 3584, 0, 8192, 32256, 0, 0, 0, 524287, 0, 2097151]) (.kill [2, 3, 6, 7, 44, 45, 46, 47, 48, 49, 50, 51, 52, 53, 54, 55, 56, 57, 58, 59, 60, 61, 62, 63]))
  (.seq (.seq (.post (.reg [⟨(some 64), .op (.load 5 true (.tmp 8)), none⟩,
    ⟨(some 65), .call (.func i_impl_ValidRewriter) [(.tmp 64)], none⟩,
    ⟨(some 66), .op (.un .not (.tmp 65)), none⟩]) (.kill [64, 65]))
  (.cond (.tmp 66) (.ghost (.kill [8, 66]) (.seq (.post (.reg [⟨(some 67), .op (.build [Value.int .i64 0, Value.int .i64 0, Value.slice none 0 0, Value.slice none 0 0, Value.slice none 0 0] []), none⟩,
    ⟨none, .op (.store 5 (.tmp 4) (.tmp 67)), none⟩,
    ⟨(some 5), .op (.mv (.const (Value.int .i64 3))), none⟩]) (.kill [67]))
  .ret))
  (.ghost (.kill [66]) .skip)))
  (.seq (.post (.reg [⟨(some 68), .op (.load 5 true (.tmp 8)), none⟩,
    ⟨none, .op (.store 5 (.tmp 4) (.tmp 68)), none⟩,
    ⟨(some 5), .op (.mv (.const (Value.int .i64 0))), none⟩]) (.kill [8, 68]))
  .ret))))))
theorem cf_impl_ComposeRewriters : chkFn Try.prog i_impl_ComposeRewriters ac_impl_ComposeRewriters [.cell 4 5 true, .tmp 5] 69 = true := by decide +kernel
def fa_impl_ComposeRewriters : FnA := ⟨ac_impl_ComposeRewriters, [.cell 4 5 true, .tmp 5], 69, false, false, [(.agg [.any, .any, (.lst 1 (.lst 3 .any)), (.lst 1 (.lst 1 (.lst 2 .any))), (.lst 1 (.lst 2 .any))]), (.agg [.any, .any, (.lst 1 (.lst 3 .any)), (.lst 1 (.lst 1 (.lst 2 .any))), (.lst 1 (.lst 2 .any))])], .any, none⟩

/-- The checked code of laws heldOutPushS. -/
def lb_laws_heldOutPushS_0 : AC := (.seq (.seq (.post (.reg [⟨(some 6), .op (.mv (.tmp 5)), none⟩,
    ⟨(some 7), .op (.mv (.tmp 0)), none⟩,
    ⟨(some 8), .op (.len false (.tmp 7)), none⟩,
    ⟨(some 9), .op (.bin .lss (.tmp 6) (.tmp 8)), none⟩]) (.kill [6, 7, 8]))
  (.cond (.tmp 9) (.ghost (.kill [9]) .skip)
  (.ghost (.kill [0, 5, 9]) (.exit 0))))
  (.seq (.block 1 (.seq (.seq (.post (.reg [⟨(some 12), .op (.mv (.tmp 0)), none⟩,
    ⟨(some 13), .op (.mv (.tmp 5)), none⟩,
    ⟨(some 14), .op (.iaddrS (.tmp 12) (.tmp 13) 3), none⟩,
    ⟨(some 15), .op (.faddr (.tmp 14) 0), none⟩,
    ⟨(some 16), .op (.load 1 false (.tmp 15)), none⟩,
    ⟨(some 17), .op (.mv (.tmp 1)), none⟩,
    ⟨(some 18), .op (.bin .neq (.tmp 16) (.tmp 17)), none⟩]) (.kill [12, 13, 14, 15, 16, 17]))
  (.cond (.tmp 18) (.ghost (.kill [0, 1, 5, 18]) (.seq (.reg [⟨(some 4), .op (.mv (.const (Value.int .i64 (-1)))), none⟩])
  .ret))
  (.ghost (.kill [18]) .skip)))
  (.seq (.post (.reg [⟨(some 19), .op (.mv (.tmp 1)), none⟩,
    ⟨(some 20), .op (.bin .add (.tmp 19) (.const (Value.int .i64 1))), none⟩,
    ⟨(some 1), .op (.mv (.tmp 20)), none⟩]) (.kill [19, 20]))
  (.seq (.seq (.post (.reg [⟨(some 21), .op (.mv (.tmp 0)), none⟩,
    ⟨(some 22), .op (.mv (.tmp 5)), none⟩,
    ⟨(some 23), .op (.iaddrS (.tmp 21) (.tmp 22) 3), none⟩,
    ⟨(some 24), .op (.faddr (.tmp 23) 1), none⟩,
    ⟨(some 25), .op (.load 1 false (.tmp 24)), none⟩,
    ⟨(some 26), .op (.mv (.tmp 1)), none⟩,
    ⟨(some 27), .op (.bin .neq (.tmp 25) (.tmp 26)), none⟩]) (.kill [21, 22, 23, 24, 25, 26]))
  (.cond (.tmp 27) (.ghost (.kill [0, 1, 5, 27]) (.seq (.reg [⟨(some 4), .op (.mv (.const (Value.int .i64 (-1)))), none⟩])
  .ret))
  (.ghost (.kill [27]) .skip)))
  (.seq (.post (.reg [⟨(some 28), .op (.mv (.tmp 1)), none⟩,
    ⟨(some 29), .op (.bin .add (.tmp 28) (.const (Value.int .i64 1))), none⟩,
    ⟨(some 1), .op (.mv (.tmp 29)), none⟩]) (.kill [28, 29]))
  (.seq (.seq (.post (.draw [⟨0, ⟨(some 30), .op (.mv (.tmp 0)), none⟩, []⟩,
    ⟨1, ⟨(some 31), .op (.mv (.tmp 5)), none⟩, []⟩,
    ⟨2, ⟨(some 32), .op (.iaddrS (.tmp 30) (.tmp 31) 3), none⟩, []⟩,
    ⟨3, ⟨(some 33), .op (.faddr (.tmp 32) 2), none⟩, []⟩,
    ⟨4, ⟨(some 34), .op (.load 1 false (.tmp 33)), none⟩, []⟩,
    ⟨5, ⟨(some 35), .op (.mv (.tmp 1)), none⟩, []⟩,
    ⟨6, ⟨(some 36), .call (.func i_laws_markText) [(.tmp 35)], none⟩, [2, 4]⟩,
    ⟨7, ⟨(some 37), .op (.bin .neq (.tmp 34) (.tmp 36)), none⟩, []⟩]
    [0, 0, 3, 7, 15, 0, 32, 127]) (.kill [30, 31, 32, 33, 34, 35, 36]))
  (.cond (.tmp 37) (.ghost (.kill [0, 1, 5, 37]) (.seq (.reg [⟨(some 4), .op (.mv (.const (Value.int .i64 (-1)))), none⟩])
  .ret))
  (.ghost (.kill [37]) .skip)))
  (.post (.reg [⟨(some 38), .op (.mv (.tmp 1)), none⟩,
    ⟨(some 39), .op (.bin .add (.tmp 38) (.const (Value.int .i64 1))), none⟩,
    ⟨(some 1), .op (.mv (.tmp 39)), none⟩]) (.kill [38, 39]))))))))
  (.post (.reg [⟨(some 10), .op (.mv (.tmp 5)), none⟩,
    ⟨(some 11), .op (.bin .add (.tmp 10) (.const (Value.int .i64 1))), none⟩,
    ⟨(some 5), .op (.mv (.tmp 11)), none⟩]) (.kill [10, 11]))))
def lo_laws_heldOutPushS_0 : AC := (.loop lb_laws_heldOutPushS_0)
def ac_laws_heldOutPushS : AC := (.seq (.post (.reg [⟨(some 4), .op (.mv (.const (Value.int .i64 0))), none⟩]) (.kill [4]))
  (.seq (.seq (.reg [⟨(some 5), .op (.mv (.const (Value.int .i64 0))), none⟩])
  (.block 0 lo_laws_heldOutPushS_0))
  (.ghost (.kill [0, 5]) (.seq (.post (.reg [⟨(some 40), .op (.mv (.tmp 1)), none⟩,
    ⟨(some 4), .op (.mv (.tmp 40)), none⟩]) (.kill [1, 40]))
  .ret))))
theorem cf_laws_heldOutPushS : chkFn Try.prog i_laws_heldOutPushS ac_laws_heldOutPushS [.tmp 4] 41 = true := by decide +kernel
def fa_laws_heldOutPushS : FnA := ⟨ac_laws_heldOutPushS, [.tmp 4], 41, false, true, [], .any, none⟩

/-- The checked code of laws heldOutPushSS. -/
def lb_laws_heldOutPushSS_0 : AC := (.seq (.seq (.post (.reg [⟨(some 6), .op (.mv (.tmp 5)), none⟩,
    ⟨(some 7), .op (.mv (.tmp 0)), none⟩,
    ⟨(some 8), .op (.len false (.tmp 7)), none⟩,
    ⟨(some 9), .op (.bin .lss (.tmp 6) (.tmp 8)), none⟩]) (.kill [6, 7, 8]))
  (.cond (.tmp 9) (.ghost (.kill [9]) .skip)
  (.ghost (.kill [0, 5, 9]) (.exit 0))))
  (.seq (.block 1 (.seq (.post (.reg [⟨(some 12), .op (.mv (.tmp 0)), none⟩,
    ⟨(some 13), .op (.mv (.tmp 5)), none⟩,
    ⟨(some 14), .op (.iaddrS (.tmp 12) (.tmp 13) 1), none⟩,
    ⟨(some 15), .op (.load 1 false (.tmp 14)), none⟩,
    ⟨(some 16), .op (.mv (.tmp 1)), none⟩,
    ⟨(some 17), .call (.func i_laws_heldOutPushS) [(.tmp 15), (.tmp 16)], none⟩,
    ⟨(some 1), .op (.mv (.tmp 17)), none⟩]) (.kill [12, 13, 14, 15, 16, 17]))
  (.seq (.post (.reg [⟨(some 18), .op (.mv (.tmp 1)), none⟩,
    ⟨(some 19), .op (.bin .lss (.tmp 18) (.const (Value.int .i64 0))), none⟩]) (.kill [18]))
  (.cond (.tmp 19) (.ghost (.kill [0, 1, 5, 19]) (.seq (.reg [⟨(some 4), .op (.mv (.const (Value.int .i64 (-1)))), none⟩])
  .ret))
  (.ghost (.kill [19]) .skip)))))
  (.post (.reg [⟨(some 10), .op (.mv (.tmp 5)), none⟩,
    ⟨(some 11), .op (.bin .add (.tmp 10) (.const (Value.int .i64 1))), none⟩,
    ⟨(some 5), .op (.mv (.tmp 11)), none⟩]) (.kill [10, 11]))))
def lo_laws_heldOutPushSS_0 : AC := (.loop lb_laws_heldOutPushSS_0)
def ac_laws_heldOutPushSS : AC := (.seq (.post (.reg [⟨(some 4), .op (.mv (.const (Value.int .i64 0))), none⟩]) (.kill [4]))
  (.seq (.seq (.reg [⟨(some 5), .op (.mv (.const (Value.int .i64 0))), none⟩])
  (.block 0 lo_laws_heldOutPushSS_0))
  (.ghost (.kill [0, 5]) (.seq (.post (.reg [⟨(some 20), .op (.mv (.tmp 1)), none⟩,
    ⟨(some 4), .op (.mv (.tmp 20)), none⟩]) (.kill [1, 20]))
  .ret))))
theorem cf_laws_heldOutPushSS : chkFn Try.prog i_laws_heldOutPushSS ac_laws_heldOutPushSS [.tmp 4] 21 = true := by decide +kernel
def fa_laws_heldOutPushSS : FnA := ⟨ac_laws_heldOutPushSS, [.tmp 4], 21, false, true, [], .any, none⟩

/-- The checked code of laws heldOutMoveS. -/
def lb_laws_heldOutMoveS_0 : AC := (.seq (.seq (.post (.reg [⟨(some 6), .op (.mv (.tmp 5)), none⟩,
    ⟨(some 7), .op (.mv (.tmp 0)), none⟩,
    ⟨(some 8), .op (.len false (.tmp 7)), none⟩,
    ⟨(some 9), .op (.bin .lss (.tmp 6) (.tmp 8)), none⟩]) (.kill [6, 7, 8]))
  (.cond (.tmp 9) (.ghost (.kill [9]) .skip)
  (.ghost (.kill [0, 5, 9]) (.exit 0))))
  (.seq (.block 1 (.seq (.seq (.post (.reg [⟨(some 12), .op (.mv (.tmp 0)), none⟩,
    ⟨(some 13), .op (.mv (.tmp 5)), none⟩,
    ⟨(some 14), .op (.iaddrS (.tmp 12) (.tmp 13) 2), none⟩,
    ⟨(some 15), .op (.faddr (.tmp 14) 0), none⟩,
    ⟨(some 16), .op (.load 1 false (.tmp 15)), none⟩,
    ⟨(some 17), .op (.mv (.tmp 1)), none⟩,
    ⟨(some 18), .op (.bin .neq (.tmp 16) (.tmp 17)), none⟩]) (.kill [12, 13, 14, 15, 16, 17]))
  (.cond (.tmp 18) (.ghost (.kill [0, 1, 5, 18]) (.seq (.reg [⟨(some 4), .op (.mv (.const (Value.int .i64 (-1)))), none⟩])
  .ret))
  (.ghost (.kill [18]) .skip)))
  (.seq (.post (.reg [⟨(some 19), .op (.mv (.tmp 1)), none⟩,
    ⟨(some 20), .op (.bin .add (.tmp 19) (.const (Value.int .i64 1))), none⟩,
    ⟨(some 1), .op (.mv (.tmp 20)), none⟩]) (.kill [19, 20]))
  (.seq (.seq (.post (.draw [⟨0, ⟨(some 21), .op (.mv (.tmp 0)), none⟩, []⟩,
    ⟨1, ⟨(some 22), .op (.mv (.tmp 5)), none⟩, []⟩,
    ⟨2, ⟨(some 23), .op (.iaddrS (.tmp 21) (.tmp 22) 2), none⟩, []⟩,
    ⟨3, ⟨(some 24), .op (.faddr (.tmp 23) 1), none⟩, []⟩,
    ⟨4, ⟨(some 25), .op (.load 1 false (.tmp 24)), none⟩, []⟩,
    ⟨5, ⟨(some 26), .op (.mv (.tmp 1)), none⟩, []⟩,
    ⟨6, ⟨(some 27), .call (.func i_laws_markText) [(.tmp 26)], none⟩, [2, 4]⟩,
    ⟨7, ⟨(some 28), .op (.bin .neq (.tmp 25) (.tmp 27)), none⟩, []⟩]
    [0, 0, 3, 7, 15, 0, 32, 127]) (.kill [21, 22, 23, 24, 25, 26, 27]))
  (.cond (.tmp 28) (.ghost (.kill [0, 1, 5, 28]) (.seq (.reg [⟨(some 4), .op (.mv (.const (Value.int .i64 (-1)))), none⟩])
  .ret))
  (.ghost (.kill [28]) .skip)))
  (.post (.reg [⟨(some 29), .op (.mv (.tmp 1)), none⟩,
    ⟨(some 30), .op (.bin .add (.tmp 29) (.const (Value.int .i64 1))), none⟩,
    ⟨(some 1), .op (.mv (.tmp 30)), none⟩]) (.kill [29, 30]))))))
  (.post (.reg [⟨(some 10), .op (.mv (.tmp 5)), none⟩,
    ⟨(some 11), .op (.bin .add (.tmp 10) (.const (Value.int .i64 1))), none⟩,
    ⟨(some 5), .op (.mv (.tmp 11)), none⟩]) (.kill [10, 11]))))
def lo_laws_heldOutMoveS_0 : AC := (.loop lb_laws_heldOutMoveS_0)
def ac_laws_heldOutMoveS : AC := (.seq (.post (.reg [⟨(some 4), .op (.mv (.const (Value.int .i64 0))), none⟩]) (.kill [4]))
  (.seq (.seq (.reg [⟨(some 5), .op (.mv (.const (Value.int .i64 0))), none⟩])
  (.block 0 lo_laws_heldOutMoveS_0))
  (.ghost (.kill [0, 5]) (.seq (.post (.reg [⟨(some 31), .op (.mv (.tmp 1)), none⟩,
    ⟨(some 4), .op (.mv (.tmp 31)), none⟩]) (.kill [1, 31]))
  .ret))))
theorem cf_laws_heldOutMoveS : chkFn Try.prog i_laws_heldOutMoveS ac_laws_heldOutMoveS [.tmp 4] 32 = true := by decide +kernel
def fa_laws_heldOutMoveS : FnA := ⟨ac_laws_heldOutMoveS, [.tmp 4], 32, false, true, [], .any, none⟩

/-- The checked code of laws heldOutMoveSS. -/
def lb_laws_heldOutMoveSS_0 : AC := (.seq (.seq (.post (.reg [⟨(some 6), .op (.mv (.tmp 5)), none⟩,
    ⟨(some 7), .op (.mv (.tmp 0)), none⟩,
    ⟨(some 8), .op (.len false (.tmp 7)), none⟩,
    ⟨(some 9), .op (.bin .lss (.tmp 6) (.tmp 8)), none⟩]) (.kill [6, 7, 8]))
  (.cond (.tmp 9) (.ghost (.kill [9]) .skip)
  (.ghost (.kill [0, 5, 9]) (.exit 0))))
  (.seq (.block 1 (.seq (.post (.reg [⟨(some 12), .op (.mv (.tmp 0)), none⟩,
    ⟨(some 13), .op (.mv (.tmp 5)), none⟩,
    ⟨(some 14), .op (.iaddrS (.tmp 12) (.tmp 13) 1), none⟩,
    ⟨(some 15), .op (.load 1 false (.tmp 14)), none⟩,
    ⟨(some 16), .op (.mv (.tmp 1)), none⟩,
    ⟨(some 17), .call (.func i_laws_heldOutMoveS) [(.tmp 15), (.tmp 16)], none⟩,
    ⟨(some 1), .op (.mv (.tmp 17)), none⟩]) (.kill [12, 13, 14, 15, 16, 17]))
  (.seq (.post (.reg [⟨(some 18), .op (.mv (.tmp 1)), none⟩,
    ⟨(some 19), .op (.bin .lss (.tmp 18) (.const (Value.int .i64 0))), none⟩]) (.kill [18]))
  (.cond (.tmp 19) (.ghost (.kill [0, 1, 5, 19]) (.seq (.reg [⟨(some 4), .op (.mv (.const (Value.int .i64 (-1)))), none⟩])
  .ret))
  (.ghost (.kill [19]) .skip)))))
  (.post (.reg [⟨(some 10), .op (.mv (.tmp 5)), none⟩,
    ⟨(some 11), .op (.bin .add (.tmp 10) (.const (Value.int .i64 1))), none⟩,
    ⟨(some 5), .op (.mv (.tmp 11)), none⟩]) (.kill [10, 11]))))
def lo_laws_heldOutMoveSS_0 : AC := (.loop lb_laws_heldOutMoveSS_0)
def ac_laws_heldOutMoveSS : AC := (.seq (.post (.reg [⟨(some 4), .op (.mv (.const (Value.int .i64 0))), none⟩]) (.kill [4]))
  (.seq (.seq (.reg [⟨(some 5), .op (.mv (.const (Value.int .i64 0))), none⟩])
  (.block 0 lo_laws_heldOutMoveSS_0))
  (.ghost (.kill [0, 5]) (.seq (.post (.reg [⟨(some 20), .op (.mv (.tmp 1)), none⟩,
    ⟨(some 4), .op (.mv (.tmp 20)), none⟩]) (.kill [1, 20]))
  .ret))))
theorem cf_laws_heldOutMoveSS : chkFn Try.prog i_laws_heldOutMoveSS ac_laws_heldOutMoveSS [.tmp 4] 21 = true := by decide +kernel
def fa_laws_heldOutMoveSS : FnA := ⟨ac_laws_heldOutMoveSS, [.tmp 4], 21, false, true, [], .any, none⟩

/-- The checked code of laws heldOutMoveSSS. -/
def lb_laws_heldOutMoveSSS_0 : AC := (.seq (.seq (.post (.reg [⟨(some 6), .op (.mv (.tmp 5)), none⟩,
    ⟨(some 7), .op (.mv (.tmp 0)), none⟩,
    ⟨(some 8), .op (.len false (.tmp 7)), none⟩,
    ⟨(some 9), .op (.bin .lss (.tmp 6) (.tmp 8)), none⟩]) (.kill [6, 7, 8]))
  (.cond (.tmp 9) (.ghost (.kill [9]) .skip)
  (.ghost (.kill [0, 5, 9]) (.exit 0))))
  (.seq (.block 1 (.seq (.post (.reg [⟨(some 12), .op (.mv (.tmp 0)), none⟩,
    ⟨(some 13), .op (.mv (.tmp 5)), none⟩,
    ⟨(some 14), .op (.iaddrS (.tmp 12) (.tmp 13) 1), none⟩,
    ⟨(some 15), .op (.load 1 false (.tmp 14)), none⟩,
    ⟨(some 16), .op (.mv (.tmp 1)), none⟩,
    ⟨(some 17), .call (.func i_laws_heldOutMoveSS) [(.tmp 15), (.tmp 16)], none⟩,
    ⟨(some 1), .op (.mv (.tmp 17)), none⟩]) (.kill [12, 13, 14, 15, 16, 17]))
  (.seq (.post (.reg [⟨(some 18), .op (.mv (.tmp 1)), none⟩,
    ⟨(some 19), .op (.bin .lss (.tmp 18) (.const (Value.int .i64 0))), none⟩]) (.kill [18]))
  (.cond (.tmp 19) (.ghost (.kill [0, 1, 5, 19]) (.seq (.reg [⟨(some 4), .op (.mv (.const (Value.int .i64 (-1)))), none⟩])
  .ret))
  (.ghost (.kill [19]) .skip)))))
  (.post (.reg [⟨(some 10), .op (.mv (.tmp 5)), none⟩,
    ⟨(some 11), .op (.bin .add (.tmp 10) (.const (Value.int .i64 1))), none⟩,
    ⟨(some 5), .op (.mv (.tmp 11)), none⟩]) (.kill [10, 11]))))
def lo_laws_heldOutMoveSSS_0 : AC := (.loop lb_laws_heldOutMoveSSS_0)
def ac_laws_heldOutMoveSSS : AC := (.seq (.post (.reg [⟨(some 4), .op (.mv (.const (Value.int .i64 0))), none⟩]) (.kill [4]))
  (.seq (.seq (.reg [⟨(some 5), .op (.mv (.const (Value.int .i64 0))), none⟩])
  (.block 0 lo_laws_heldOutMoveSSS_0))
  (.ghost (.kill [0, 5]) (.seq (.post (.reg [⟨(some 20), .op (.mv (.tmp 1)), none⟩,
    ⟨(some 4), .op (.mv (.tmp 20)), none⟩]) (.kill [1, 20]))
  .ret))))
theorem cf_laws_heldOutMoveSSS : chkFn Try.prog i_laws_heldOutMoveSSS ac_laws_heldOutMoveSSS [.tmp 4] 21 = true := by decide +kernel
def fa_laws_heldOutMoveSSS : FnA := ⟨ac_laws_heldOutMoveSSS, [.tmp 4], 21, false, true, [], .any, none⟩

/-- The checked code of laws heldRewriter. -/
def ac_laws_heldRewriter : AC := (.seq (.post (.reg [⟨(some 2), .op (.box true (.tmp 0)), none⟩,
    ⟨(some 4), .op (.mv (.const (Value.int .i64 0))), none⟩]) (.kill [0, 4]))
  (.seq (.post (.reg [⟨(some 5), .op (.faddr (.tmp 2) 2), none⟩,
    ⟨(some 6), .op (.load 1 false (.tmp 5)), none⟩,
    ⟨(some 7), .op (.mv (.tmp 1)), none⟩,
    ⟨(some 8), .call (.func i_laws_heldOutPushSS) [(.tmp 6), (.tmp 7)], none⟩,
    ⟨(some 1), .op (.mv (.tmp 8)), none⟩]) (.kill [5, 6, 7, 8]))
  (.seq (.seq (.post (.reg [⟨(some 9), .op (.mv (.tmp 1)), none⟩,
    ⟨(some 10), .op (.bin .lss (.tmp 9) (.const (Value.int .i64 0))), none⟩]) (.kill [9]))
  (.cond (.tmp 10) (.ghost (.kill [1, 2, 10]) (.seq (.reg [⟨(some 4), .op (.mv (.const (Value.int .i64 (-1)))), none⟩])
  .ret))
  (.ghost (.kill [10]) .skip)))
  (.seq (.post (.reg [⟨(some 11), .op (.faddr (.tmp 2) 3), none⟩,
    ⟨(some 12), .op (.load 1 false (.tmp 11)), none⟩,
    ⟨(some 13), .op (.mv (.tmp 1)), none⟩,
    ⟨(some 14), .call (.func i_laws_heldOutMoveSSS) [(.tmp 12), (.tmp 13)], none⟩,
    ⟨(some 1), .op (.mv (.tmp 14)), none⟩]) (.kill [11, 12, 13, 14]))
  (.seq (.seq (.post (.reg [⟨(some 15), .op (.mv (.tmp 1)), none⟩,
    ⟨(some 16), .op (.bin .lss (.tmp 15) (.const (Value.int .i64 0))), none⟩]) (.kill [15]))
  (.cond (.tmp 16) (.ghost (.kill [1, 2, 16]) (.seq (.reg [⟨(some 4), .op (.mv (.const (Value.int .i64 (-1)))), none⟩])
  .ret))
  (.ghost (.kill [16]) .skip)))
  (.seq (.post (.reg [⟨(some 17), .op (.faddr (.tmp 2) 4), none⟩,
    ⟨(some 18), .op (.load 1 false (.tmp 17)), none⟩,
    ⟨(some 19), .op (.mv (.tmp 1)), none⟩,
    ⟨(some 20), .call (.func i_laws_heldOutMoveSS) [(.tmp 18), (.tmp 19)], none⟩,
    ⟨(some 1), .op (.mv (.tmp 20)), none⟩]) (.kill [2, 17, 18, 19, 20]))
  (.seq (.seq (.post (.reg [⟨(some 21), .op (.mv (.tmp 1)), none⟩,
    ⟨(some 22), .op (.bin .lss (.tmp 21) (.const (Value.int .i64 0))), none⟩]) (.kill [21]))
  (.cond (.tmp 22) (.ghost (.kill [1, 22]) (.seq (.reg [⟨(some 4), .op (.mv (.const (Value.int .i64 (-1)))), none⟩])
  .ret))
  (.ghost (.kill [22]) .skip)))
  (.seq (.post (.reg [⟨(some 23), .op (.mv (.tmp 1)), none⟩,
    ⟨(some 4), .op (.mv (.tmp 23)), none⟩]) (.kill [1, 23]))
  .ret))))))))
theorem cf_laws_heldRewriter : chkFn Try.prog i_laws_heldRewriter ac_laws_heldRewriter [.tmp 4] 24 = true := by decide +kernel
def fa_laws_heldRewriter : FnA := ⟨ac_laws_heldRewriter, [.tmp 4], 24, false, true, [(.agg [.any, .any, (.lst 1 (.lst 3 .any)), (.lst 1 (.lst 1 (.lst 2 .any))), (.lst 1 (.lst 2 .any))]), .any], .any, none⟩

/-- The checked code of laws FnExactComposeRewriters. -/
def ac_laws_FnExactComposeRewriters : AC := (.seq (.post (.reg [⟨(some 2), .op (.box true (.tmp 0)), none⟩,
    ⟨(some 3), .op (.box true (.tmp 1)), none⟩,
    ⟨(some 4), .op (.mv (.const (Value.bool false))), none⟩]) (.kill [0, 1, 4]))
  (.seq (.reg [⟨(some 5), .op (.mv (.const (Value.int .i64 1048576))), none⟩])
  (.seq (.post (.reg [⟨(some 17), .op (.load 5 true (.tmp 2)), none⟩,
    ⟨(some 18), .op (.mv (.tmp 5)), none⟩,
    ⟨(some 19), .call (.func i_laws_szRewriter) [(.tmp 17), (.tmp 18)], none⟩,
    ⟨(some 5), .op (.mv (.tmp 19)), none⟩]) (.kill [17, 18, 19]))
  (.seq (.seq (.post (.reg [⟨(some 20), .op (.mv (.tmp 5)), none⟩,
    ⟨(some 21), .op (.bin .lss (.tmp 20) (.const (Value.int .i64 0))), none⟩]) (.kill [20]))
  (.cond (.tmp 21) (.ghost (.kill [2, 3, 5, 21]) (.seq (.reg [⟨(some 4), .op (.mv (.const (Value.bool true))), none⟩])
  .ret))
  (.ghost (.kill [21]) .skip)))
  (.seq (.post (.reg [⟨(some 22), .op (.load 5 true (.tmp 3)), none⟩,
    ⟨(some 23), .op (.mv (.tmp 5)), none⟩,
    ⟨(some 24), .call (.func i_laws_szRewriter) [(.tmp 22), (.tmp 23)], none⟩,
    ⟨(some 5), .op (.mv (.tmp 24)), none⟩]) (.kill [22, 23, 24]))
  (.seq (.seq (.post (.reg [⟨(some 25), .op (.mv (.tmp 5)), none⟩,
    ⟨(some 26), .op (.bin .lss (.tmp 25) (.const (Value.int .i64 0))), none⟩]) (.kill [5, 25]))
  (.cond (.tmp 26) (.ghost (.kill [2, 3, 26]) (.seq (.reg [⟨(some 4), .op (.mv (.const (Value.bool true))), none⟩])
  .ret))
  (.ghost (.kill [26]) .skip)))
  (.seq (.post (.draw [⟨0, ⟨(some 28), .op (.load 5 true (.tmp 2)), none⟩, []⟩,
    ⟨1, ⟨(some 29), .call (.func i_laws_toRewriter) [(.tmp 28)] true, none⟩, []⟩,
    ⟨2, ⟨(some 30), .op (.load 5 true (.tmp 3)), none⟩, []⟩,
    ⟨3, ⟨(some 31), .call (.func i_laws_toRewriter) [(.tmp 30)] true, none⟩, []⟩,
    ⟨4, ⟨(some 32), .call (.func i_spec_ComposeRewriters) [(.tmp 29), (.tmp 31)], none⟩, []⟩,
    ⟨5, ⟨(some 27), .op (.mv (.tmp 32)), none⟩, []⟩,
    ⟨6, ⟨(some 33), .op (.ext (.tmp 27) 0), none⟩, []⟩,
    ⟨7, ⟨(some 34), .op (.ext (.tmp 27) 1), none⟩, []⟩,
    ⟨8, ⟨(some 6), .op (.alloc (Value.agg #[Value.int .i64 0, Value.int .i64 0, Value.slice none 0 0, Value.slice none 0 0, Value.slice none 0 0])), none⟩, [0, 2]⟩,
    ⟨9, ⟨none, .op (.store 5 (.tmp 6) (.tmp 33)), none⟩, []⟩,
    ⟨10, ⟨(some 7), .op (.mv (.tmp 34)), none⟩, []⟩]
    [0, 1, 0, 7, 15, 31, 63, 63, 0, 383, 1023]) (.kill [27, 28, 29, 30, 31, 32, 33, 34]))
  (.seq (.post (.reg [⟨(some 35), .op (.load 5 true (.tmp 2)), none⟩,
    ⟨(some 36), .call (.func i_laws_toRewriter) [(.tmp 35)], none⟩,
    ⟨(some 8), .op (.alloc (Value.agg #[Value.int .i64 0, Value.int .i64 0, Value.slice none 0 0, Value.slice none 0 0, Value.slice none 0 0])), none⟩,
    ⟨none, .op (.store 5 (.tmp 8) (.tmp 36)), none⟩]) (.kill [35, 36]))
  (.seq (.post (.reg [⟨(some 37), .op (.load 5 true (.tmp 3)), none⟩,
    ⟨(some 38), .call (.func i_laws_toRewriter) [(.tmp 37)], none⟩,
    ⟨(some 9), .op (.alloc (Value.agg #[Value.int .i64 0, Value.int .i64 0, Value.slice none 0 0, Value.slice none 0 0, Value.slice none 0 0])), none⟩,
    ⟨none, .op (.store 5 (.tmp 9) (.tmp 38)), none⟩]) (.kill [37, 38]))
  (.seq (.post (.reg [⟨(some 40), .op (.load 5 true (.tmp 8)), none⟩,
    ⟨(some 41), .op (.load 5 true (.tmp 9)), none⟩,
    ⟨(some 42), .call (.func i_impl_ComposeRewriters) [(.tmp 40), (.tmp 41)], none⟩,
    ⟨(some 39), .op (.mv (.tmp 42)), none⟩,
    ⟨(some 43), .op (.ext (.tmp 39) 0), none⟩,
    ⟨(some 44), .op (.ext (.tmp 39) 1), none⟩,
    ⟨(some 10), .op (.alloc (Value.agg #[Value.int .i64 0, Value.int .i64 0, Value.slice none 0 0, Value.slice none 0 0, Value.slice none 0 0])), none⟩,
    ⟨none, .op (.store 5 (.tmp 10) (.tmp 43)), none⟩,
    ⟨(some 11), .op (.mv (.tmp 44)), none⟩]) (.kill [39, 40, 41, 42, 43, 44]))
  (.seq (.seq (.post (.reg [⟨(some 45), .op (.load 5 true (.tmp 10)), none⟩,
    ⟨(some 46), .op (.load 5 true (.tmp 6)), none⟩,
    ⟨(some 47), .call (.func i_laws_eqRewriter) [(.tmp 45), (.tmp 46)], none⟩,
    ⟨(some 48), .op (.un .not (.tmp 47)), none⟩,
    ⟨(some 49), .op (.mv (.tmp 48)), none⟩,
    ⟨(some 50), .op (.mv (.tmp 11)), some (49, false)⟩,
    ⟨(some 51), .op (.mv (.tmp 7)), some (49, false)⟩,
    ⟨(some 52), .op (.bin .neq (.tmp 50) (.tmp 51)), some (49, false)⟩,
    ⟨(some 53), .op (.pick (.tmp 49) (.const (Value.bool true)) (.tmp 52)), none⟩]) (.kill [45, 46, 47, 48, 49, 50, 51, 52]))
  (.cond (.tmp 53) (.ghost (.kill [2, 3, 6, 7, 8, 9, 10, 11, 53]) (.seq (.reg [⟨(some 4), .op (.mv (.const (Value.bool false))), none⟩])
  .ret))
  (.ghost (.kill [53]) .skip)))
  (.seq (.seq (.post (.draw [⟨0, ⟨(some 54), .op (.load 5 true (.tmp 8)), none⟩, []⟩,
    ⟨1, ⟨(some 55), .op (.load 5 true (.tmp 2)), none⟩, []⟩,
    ⟨2, ⟨(some 56), .call (.func i_laws_toRewriter) [(.tmp 55)], none⟩, [0]⟩,
    ⟨3, ⟨(some 57), .call (.func i_laws_eqRewriter) [(.tmp 54), (.tmp 56)], none⟩, []⟩,
    ⟨4, ⟨(some 58), .op (.un .not (.tmp 57)), none⟩, []⟩]
    [0, 0, 2, 7, 15]) (.kill [54, 55, 56, 57]))
  (.cond (.tmp 58) (.ghost (.kill [2, 3, 6, 7, 8, 9, 10, 11, 58]) (.seq (.reg [⟨(some 4), .op (.mv (.const (Value.bool false))), none⟩])
  .ret))
  (.ghost (.kill [58]) .skip)))
  (.seq (.seq (.post (.draw [⟨0, ⟨(some 59), .op (.load 5 true (.tmp 9)), none⟩, []⟩,
    ⟨1, ⟨(some 60), .op (.load 5 true (.tmp 3)), none⟩, []⟩,
    ⟨2, ⟨(some 61), .call (.func i_laws_toRewriter) [(.tmp 60)], none⟩, [0]⟩,
    ⟨3, ⟨(some 62), .call (.func i_laws_eqRewriter) [(.tmp 59), (.tmp 61)], none⟩, []⟩,
    ⟨4, ⟨(some 63), .op (.un .not (.tmp 62)), none⟩, []⟩]
    [0, 0, 2, 7, 15]) (.kill [59, 60, 61, 62]))
  (.cond (.tmp 63) (.ghost (.kill [2, 3, 6, 7, 8, 9, 10, 11, 63]) (.seq (.reg [⟨(some 4), .op (.mv (.const (Value.bool false))), none⟩])
  .ret))
  (.ghost (.kill [63]) .skip)))
  (.seq (.reg [⟨(some 12), .op (.mv (.const (Value.int .i64 1))), none⟩])
  (.seq (.post (.reg [⟨(some 64), .op (.load 5 true (.tmp 8)), none⟩,
    ⟨(some 65), .op (.mv (.tmp 12)), none⟩,
    ⟨(some 66), .call (.func i_laws_markRewriter) [(.tmp 64), (.tmp 65)], none⟩,
    ⟨(some 12), .op (.mv (.tmp 66)), none⟩]) (.kill [8, 64, 65, 66]))
  (.seq (.post (.reg [⟨(some 67), .op (.load 5 true (.tmp 9)), none⟩,
    ⟨(some 68), .op (.mv (.tmp 12)), none⟩,
    ⟨(some 69), .call (.func i_laws_markRewriter) [(.tmp 67), (.tmp 68)], none⟩,
    ⟨(some 12), .op (.mv (.tmp 69)), none⟩]) (.kill [9, 67, 68, 69]))
  (.seq (.seq (.post (.reg [⟨(some 70), .op (.mv (.tmp 12)), none⟩,
    ⟨(some 71), .op (.bin .lss (.tmp 70) (.const (Value.int .i64 0))), none⟩,
    ⟨(some 72), .op (.mv (.tmp 71)), none⟩,
    ⟨(some 73), .op (.load 5 true (.tmp 10)), some (72, false)⟩,
    ⟨(some 74), .op (.load 5 true (.tmp 6)), some (72, false)⟩,
    ⟨(some 75), .call (.func i_laws_eqRewriter) [(.tmp 73), (.tmp 74)], some (72, false)⟩,
    ⟨(some 76), .op (.un .not (.tmp 75)), some (72, false)⟩,
    ⟨(some 77), .op (.pick (.tmp 72) (.const (Value.bool true)) (.tmp 76)), none⟩,
    ⟨(some 78), .op (.mv (.tmp 77)), none⟩,
    ⟨(some 79), .op (.mv (.tmp 11)), some (78, false)⟩,
    ⟨(some 80), .op (.mv (.tmp 7)), some (78, false)⟩,
    ⟨(some 81), .op (.bin .neq (.tmp 79) (.tmp 80)), some (78, false)⟩,
    ⟨(some 82), .op (.pick (.tmp 78) (.const (Value.bool true)) (.tmp 81)), none⟩]) (.kill [11, 12, 70, 71, 72, 73, 74, 75, 76, 77, 78, 79, 80, 81]))
  (.cond (.tmp 82) (.ghost (.kill [2, 3, 6, 7, 10, 82]) (.seq (.reg [⟨(some 4), .op (.mv (.const (Value.bool false))), none⟩])
  .ret))
  (.ghost (.kill [82]) .skip)))
  (.seq (.reg [⟨(some 13), .op (.mv (.const (Value.int .i64 1))), none⟩])
  (.seq (.post (.reg [⟨(some 83), .op (.load 5 true (.tmp 10)), none⟩,
    ⟨(some 84), .op (.mv (.tmp 13)), none⟩,
    ⟨(some 85), .call (.func i_laws_markRewriter) [(.tmp 83), (.tmp 84)], none⟩,
    ⟨(some 13), .op (.mv (.tmp 85)), none⟩]) (.kill [83, 84, 85]))
  (.seq (.reg [⟨(some 14), .op (.mv (.const (Value.int .i64 1))), none⟩])
  (.seq (.post (.reg [⟨(some 86), .op (.load 5 true (.tmp 10)), none⟩,
    ⟨(some 87), .op (.mv (.tmp 14)), none⟩,
    ⟨(some 88), .call (.func i_laws_heldRewriter) [(.tmp 86), (.tmp 87)], none⟩,
    ⟨(some 14), .op (.mv (.tmp 88)), none⟩]) (.kill [86, 87, 88]))
  (.seq (.seq (.post (.reg [⟨(some 89), .op (.mv (.tmp 14)), none⟩,
    ⟨(some 90), .op (.bin .lss (.tmp 89) (.const (Value.int .i64 0))), none⟩]) (.kill [89]))
  (.cond (.tmp 90) (.ghost (.kill [2, 3, 6, 7, 10, 13, 14, 90]) (.seq (.reg [⟨(some 4), .op (.mv (.const (Value.bool false))), none⟩])
  .ret))
  (.ghost (.kill [90]) .skip)))
  (.seq (.seq (.post (.reg [⟨(some 91), .op (.mv (.tmp 14)), none⟩,
    ⟨(some 92), .op (.mv (.tmp 13)), none⟩,
    ⟨(some 93), .op (.bin .neq (.tmp 91) (.tmp 92)), none⟩]) (.kill [14, 91, 92]))
  (.cond (.tmp 93) (.ghost (.kill [2, 3, 6, 7, 10, 13, 93]) (.seq (.reg [⟨(some 4), .op (.mv (.const (Value.bool false))), none⟩])
  .ret))
  (.ghost (.kill [93]) .skip)))
  (.seq (.post (.draw [⟨0, ⟨(some 95), .op (.load 5 true (.tmp 2)), none⟩, []⟩,
    ⟨2, ⟨(some 97), .op (.load 5 true (.tmp 3)), none⟩, []⟩,
    ⟨1, ⟨(some 96), .call (.func i_laws_toRewriter) [(.tmp 95)], none⟩, [2]⟩,
    ⟨3, ⟨(some 98), .call (.func i_laws_toRewriter) [(.tmp 97)], none⟩, []⟩,
    ⟨4, ⟨(some 99), .call (.func i_impl_ComposeRewriters) [(.tmp 96), (.tmp 98)], none⟩, []⟩,
    ⟨5, ⟨(some 94), .op (.mv (.tmp 99)), none⟩, []⟩,
    ⟨6, ⟨(some 100), .op (.ext (.tmp 94) 0), none⟩, []⟩,
    ⟨7, ⟨(some 101), .op (.ext (.tmp 94) 1), none⟩, []⟩,
    ⟨8, ⟨(some 15), .op (.alloc (Value.agg #[Value.int .i64 0, Value.int .i64 0, Value.slice none 0 0, Value.slice none 0 0, Value.slice none 0 0])), none⟩, [0, 2]⟩,
    ⟨9, ⟨none, .op (.store 5 (.tmp 15) (.tmp 100)), none⟩, []⟩,
    ⟨10, ⟨(some 16), .op (.mv (.tmp 101)), none⟩, []⟩]
    [0, 1, 0, 7, 15, 31, 63, 63, 0, 383, 1023]) (.kill [2, 3, 94, 95, 96, 97, 98, 99, 100, 101]))
  (.seq (.seq (.post (.reg [⟨(some 102), .op (.load 5 true (.tmp 15)), none⟩,
    ⟨(some 103), .op (.load 5 true (.tmp 6)), none⟩,
    ⟨(some 104), .call (.func i_laws_eqRewriter) [(.tmp 102), (.tmp 103)], none⟩,
    ⟨(some 105), .op (.un .not (.tmp 104)), none⟩,
    ⟨(some 106), .op (.mv (.tmp 105)), none⟩,
    ⟨(some 107), .op (.mv (.tmp 16)), some (106, false)⟩,
    ⟨(some 108), .op (.mv (.tmp 7)), some (106, false)⟩,
    ⟨(some 109), .op (.bin .neq (.tmp 107) (.tmp 108)), some (106, false)⟩,
    ⟨(some 110), .op (.pick (.tmp 106) (.const (Value.bool true)) (.tmp 109)), none⟩]) (.kill [6, 7, 15, 16, 102, 103, 104, 105, 106, 107, 108, 109]))
  (.cond (.tmp 110) (.ghost (.kill [10, 13, 110]) (.seq (.reg [⟨(some 4), .op (.mv (.const (Value.bool false))), none⟩])
  .ret))
  (.ghost (.kill [110]) .skip)))
  (.seq (.reg [⟨(some 14), .op (.mv (.const (Value.int .i64 1))), none⟩])
  (.seq (.post (.reg [⟨(some 111), .op (.load 5 true (.tmp 10)), none⟩,
    ⟨(some 112), .op (.mv (.tmp 14)), none⟩,
    ⟨(some 113), .call (.func i_laws_heldRewriter) [(.tmp 111), (.tmp 112)], none⟩,
    ⟨(some 14), .op (.mv (.tmp 113)), none⟩]) (.kill [10, 111, 112, 113]))
  (.seq (.seq (.post (.reg [⟨(some 114), .op (.mv (.tmp 14)), none⟩,
    ⟨(some 115), .op (.bin .lss (.tmp 114) (.const (Value.int .i64 0))), none⟩]) (.kill [114]))
  (.cond (.tmp 115) (.ghost (.kill [13, 14, 115]) (.seq (.reg [⟨(some 4), .op (.mv (.const (Value.bool false))), none⟩])
  .ret))
  (.ghost (.kill [115]) .skip)))
  (.seq (.seq (.post (.reg [⟨(some 116), .op (.mv (.tmp 14)), none⟩,
    ⟨(some 117), .op (.mv (.tmp 13)), none⟩,
    ⟨(some 118), .op (.bin .neq (.tmp 116) (.tmp 117)), none⟩]) (.kill [13, 14, 116, 117]))
  (.cond (.tmp 118) (.ghost (.kill [118]) (.seq (.reg [⟨(some 4), .op (.mv (.const (Value.bool false))), none⟩])
  .ret))
  (.ghost (.kill [118]) .skip)))
  (.seq (.reg [⟨(some 4), .op (.mv (.const (Value.bool true))), none⟩])
  .ret))))))))))))))))))))))))))))))
theorem cf_laws_FnExactComposeRewriters : chkFn Try.prog i_laws_FnExactComposeRewriters ac_laws_FnExactComposeRewriters [.tmp 4] 119 = true := by decide +kernel
def fa_laws_FnExactComposeRewriters : FnA := ⟨ac_laws_FnExactComposeRewriters, [.tmp 4], 119, false, true, [], .any, none⟩

end Go.Proofs.Ytjfpmpbdbpgofaa
