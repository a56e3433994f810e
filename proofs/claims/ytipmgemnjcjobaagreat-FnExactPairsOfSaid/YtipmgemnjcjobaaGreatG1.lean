/- The code of the functions, checked against the loaded program; printed by a program (gen2.py). -/
import Derived.Test.YtipmgemnjcjobaaGreatProg
import Derived.Test.YtipmgemnjcjobaaGreatAw25
import Derived.Test.YtipmgemnjcjobaaGreatG0
set_option linter.unusedVariables false
set_option maxRecDepth 100000
namespace Go.Proofs.YtipmgemnjcjobaaGreat
open Aw

/-- The checked code of impl Choices  call. -/
def ac_impl_Choices_call : AC := (.seq (.post (.reg [⟨(some 3), .op (.box true (.tmp 0)), none⟩,
    ⟨(some 4), .op (.box true (.tmp 1)), none⟩,
    ⟨(some 5), .op (.box true (.tmp 2)), none⟩,
    ⟨(some 6), .op (.alloc (Value.agg #[Value.int .u64 0, Value.int .u64 0, Value.int .u64 0, Value.int .u64 0, Value.int .u64 0, Value.int .u64 0])), none⟩]) (.kill [0, 1, 2]))
  (.seq (.post (.draw [⟨0, ⟨(some 7), .op (.load 6 true (.tmp 3)), none⟩, []⟩,
    ⟨2, ⟨(some 9), .op (.faddr (.tmp 4) 5), none⟩, []⟩,
    ⟨3, ⟨(some 10), .op (.load 1 false (.tmp 9)), none⟩, []⟩,
    ⟨4, ⟨(some 11), .op (.mkfn i_impl_Choices_call_1 [(.tmp 3), (.tmp 5)]), none⟩, []⟩,
    ⟨1, ⟨(some 8), .call (.func i_impl_Choices_same) [(.tmp 7)], none⟩, [3]⟩,
    ⟨5, ⟨(some 12), .call (.func i_impl_all) [(.tmp 10), (.tmp 11)], none⟩, []⟩,
    ⟨6, ⟨(some 13), .op (.build [Value.int .u64 0, Value.int .u64 0, Value.int .u64 0, Value.int .u64 0, Value.int .u64 0, Value.int .u64 0] [(0, 5, (.tmp 8)), (5, 1, (.tmp 12))]), none⟩, []⟩,
    ⟨7, ⟨none, .op (.store 6 (.tmp 6) (.tmp 13)), none⟩, []⟩]
    [0, 1, 0, 4, 0, 31, 63, 127]) (.kill [3, 4, 5, 7, 8, 9, 10, 11, 12, 13]))
  .ret))
theorem cf_impl_Choices_call : chkFn Tryz.prog i_impl_Choices_call ac_impl_Choices_call [.cell 6 6 true] 14 = true := by decide +kernel
def fa_impl_Choices_call : FnA := ⟨ac_impl_Choices_call, [.cell 6 6 true], 14, false, true, [], .any, none⟩

/-- The checked code of impl Choices  inner 1. -/
def ac_impl_Choices_inner_1 : AC := (.seq (.post (.reg [⟨(some 4), .op (.mv (.const (Value.int .u64 0))), none⟩]) (.kill [4]))
  (.seq (.post (.draw [⟨0, ⟨(some 5), .op (.faddr (.tmp 1) 5), none⟩, []⟩,
    ⟨1, ⟨(some 6), .op (.load 1 false (.tmp 5)), none⟩, []⟩,
    ⟨2, ⟨(some 7), .op (.mv (.tmp 0)), none⟩, []⟩,
    ⟨3, ⟨(some 8), .op (.iaddrS (.tmp 6) (.tmp 7) 1), none⟩, []⟩,
    ⟨4, ⟨(some 9), .op (.load 1 false (.tmp 8)), none⟩, []⟩,
    ⟨5, ⟨(some 10), .op (.load 1 false (.tmp 2)), none⟩, []⟩,
    ⟨6, ⟨(some 11), .op (.iaddrS (.tmp 9) (.tmp 10) 1), none⟩, []⟩,
    ⟨7, ⟨(some 12), .op (.load 1 false (.tmp 11)), none⟩, []⟩,
    ⟨8, ⟨(some 13), .call (.func i_impl_bits) [(.tmp 12)], none⟩, []⟩,
    ⟨9, ⟨(some 4), .op (.mv (.tmp 13)), none⟩, []⟩]
    [0, 1, 0, 7, 15, 0, 63, 127, 255, 511]) (.kill [0, 1, 2, 5, 6, 7, 8, 9, 10, 11, 12, 13]))
  .ret))
theorem cf_impl_Choices_inner_1 : chkFn Tryz.prog i_impl_Choices_inner_1 ac_impl_Choices_inner_1 [.tmp 4] 14 = true := by decide +kernel
def fa_impl_Choices_inner_1 : FnA := ⟨ac_impl_Choices_inner_1, [.tmp 4], 14, false, true, [], .any, none⟩

/-- The checked code of impl Choices  inner. -/
def lb_impl_Choices_inner_0 : AC := (.post (.seq (.reg [⟨(some 14), .op (.bin .lss (.tmp 13) (.const (Value.int .i64 5))), none⟩])
  (.seq (.cond (.tmp 14) (.ghost (.kill [14]) .skip)
  (.ghost (.kill [12, 13, 14]) (.exit 0)))
  (.seq (.block 1 (.seq (.post (.reg [⟨(some 15), .op (.mv (.tmp 13)), none⟩,
    ⟨(some 16), .op (.idxArr (.tmp 12) (.tmp 13) 5 1 false), none⟩,
    ⟨(some 8), .op (.mv (.tmp 15)), none⟩,
    ⟨(some 9), .op (.mv (.tmp 16)), none⟩]) (.kill [15, 16]))
  (.post (.reg [⟨(some 17), .op (.mv (.tmp 8)), none⟩,
    ⟨(some 18), .op (.mv (.tmp 9)), none⟩,
    ⟨(some 19), .op (.mv (.tmp 7)), none⟩,
    ⟨(some 20), .call (.func i_impl_all) [(.tmp 18), (.tmp 19)], none⟩,
    ⟨(some 21), .op (.faddr (.tmp 4) 0), none⟩,
    ⟨(some 22), .op (.iaddrA (.tmp 21) (.tmp 17) 5 1), none⟩,
    ⟨none, .op (.store 1 (.tmp 22) (.tmp 20)), none⟩]) (.kill [8, 9, 17, 18, 19, 20, 21, 22]))))
  (.post (.reg [⟨(some 23), .op (.bin .add (.tmp 13) (.const (Value.int .i64 1))), none⟩,
    ⟨(some 13), .op (.mv (.tmp 23)), none⟩]) (.kill [23]))))) .nv)
def lo_impl_Choices_inner_0 : AC := (.loop lb_impl_Choices_inner_0)
def ac_impl_Choices_inner : AC := (.seq (.post (.reg [⟨(some 3), .op (.box true (.tmp 0)), none⟩,
    ⟨(some 4), .op (.box false (.tmp 1)), none⟩,
    ⟨(some 5), .op (.box true (.tmp 2)), none⟩,
    ⟨(some 6), .op (.alloc (Value.agg #[Value.int .u64 0, Value.int .u64 0, Value.int .u64 0, Value.int .u64 0, Value.int .u64 0, Value.int .u64 0])), none⟩]) (.kill [0, 1, 2]))
  (.seq (.post (.reg [⟨(some 10), .op (.mkfn i_impl_Choices_inner_1 [(.tmp 3), (.tmp 5)]), none⟩,
    ⟨(some 7), .op (.mv (.tmp 10)), none⟩]) (.kill [3, 5, 10]))
  (.seq (.seq (.post (.reg [⟨(some 11), .op (.faddr (.tmp 4) 0), none⟩,
    ⟨(some 12), .op (.load 5 true (.tmp 11)), none⟩,
    ⟨(some 13), .op (.mv (.const (Value.int .i64 0))), none⟩]) (.kill [11]))
  (.post (.block 0 (.ghost .nv lo_impl_Choices_inner_0)) .nv))
  (.ghost (.kill [12, 13]) (.seq (.post (.reg [⟨(some 24), .op (.faddr (.tmp 4) 5), none⟩,
    ⟨(some 25), .op (.load 1 false (.tmp 24)), none⟩,
    ⟨(some 26), .op (.mv (.tmp 7)), none⟩,
    ⟨(some 27), .call (.func i_impl_all) [(.tmp 25), (.tmp 26)], none⟩,
    ⟨(some 28), .op (.faddr (.tmp 4) 5), none⟩,
    ⟨none, .op (.store 1 (.tmp 28) (.tmp 27)), none⟩]) (.kill [7, 24, 25, 26, 27, 28]))
  (.seq (.post (.reg [⟨(some 29), .op (.load 6 true (.tmp 4)), none⟩,
    ⟨none, .op (.store 6 (.tmp 6) (.tmp 29)), none⟩]) (.kill [4, 29]))
  .ret))))))
theorem cf_impl_Choices_inner : chkFn Tryz.prog i_impl_Choices_inner ac_impl_Choices_inner [.cell 6 6 true] 30 = true := by decide +kernel
def fa_impl_Choices_inner : FnA := ⟨ac_impl_Choices_inner, [.cell 6 6 true], 30, false, true, [], .any, none⟩

/-- The checked code of impl Choices  free 1. -/
def ac_impl_Choices_free_1 : AC := (.seq (.post (.reg [⟨(some 4), .op (.mv (.const (Value.int .u64 0))), none⟩]) (.kill [4]))
  (.seq (.post (.draw [⟨0, ⟨(some 5), .op (.faddr (.tmp 1) 4), none⟩, []⟩,
    ⟨1, ⟨(some 6), .op (.load 1 false (.tmp 5)), none⟩, []⟩,
    ⟨2, ⟨(some 7), .op (.mv (.tmp 0)), none⟩, []⟩,
    ⟨3, ⟨(some 8), .op (.iaddrS (.tmp 6) (.tmp 7) 1), none⟩, []⟩,
    ⟨4, ⟨(some 9), .op (.load 1 false (.tmp 8)), none⟩, []⟩,
    ⟨5, ⟨(some 10), .op (.load 1 false (.tmp 2)), none⟩, []⟩,
    ⟨6, ⟨(some 11), .op (.iaddrS (.tmp 9) (.tmp 10) 1), none⟩, []⟩,
    ⟨7, ⟨(some 12), .op (.load 1 false (.tmp 11)), none⟩, []⟩,
    ⟨8, ⟨(some 13), .op (.faddr (.tmp 1) 0), none⟩, []⟩,
    ⟨9, ⟨(some 14), .op (.load 1 false (.tmp 13)), none⟩, []⟩,
    ⟨10, ⟨(some 15), .op (.iaddrS (.tmp 12) (.tmp 14) 1), none⟩, []⟩,
    ⟨11, ⟨(some 16), .op (.load 1 false (.tmp 15)), none⟩, []⟩,
    ⟨12, ⟨(some 17), .call (.func i_impl_bits) [(.tmp 16)], none⟩, []⟩,
    ⟨13, ⟨(some 4), .op (.mv (.tmp 17)), none⟩, []⟩]
    [0, 1, 0, 7, 15, 0, 63, 127, 0, 256, 1023, 2047, 4095, 8191]) (.kill [0, 1, 2, 5, 6, 7, 8, 9, 10, 11, 12, 13, 14, 15, 16, 17]))
  .ret))
theorem cf_impl_Choices_free_1 : chkFn Tryz.prog i_impl_Choices_free_1 ac_impl_Choices_free_1 [.tmp 4] 18 = true := by decide +kernel
def fa_impl_Choices_free_1 : FnA := ⟨ac_impl_Choices_free_1, [.tmp 4], 18, false, true, [], .any, none⟩

/-- The checked code of impl Choices  free. -/
def ac_impl_Choices_free : AC := (.seq (.post (.reg [⟨(some 3), .op (.box true (.tmp 0)), none⟩,
    ⟨(some 4), .op (.box true (.tmp 1)), none⟩,
    ⟨(some 5), .op (.box true (.tmp 2)), none⟩,
    ⟨(some 6), .op (.alloc (Value.agg #[Value.int .u64 0, Value.int .u64 0, Value.int .u64 0, Value.int .u64 0, Value.int .u64 0, Value.int .u64 0])), none⟩]) (.kill [0, 1, 2]))
  (.seq (.post (.draw [⟨0, ⟨(some 7), .op (.load 6 true (.tmp 3)), none⟩, []⟩,
    ⟨2, ⟨(some 9), .op (.faddr (.tmp 4) 5), none⟩, []⟩,
    ⟨3, ⟨(some 10), .op (.load 1 false (.tmp 9)), none⟩, []⟩,
    ⟨4, ⟨(some 11), .op (.mkfn i_impl_Choices_free_1 [(.tmp 3), (.tmp 5)]), none⟩, []⟩,
    ⟨1, ⟨(some 8), .call (.func i_impl_Choices_same) [(.tmp 7)], none⟩, [3]⟩,
    ⟨5, ⟨(some 12), .call (.func i_impl_all) [(.tmp 10), (.tmp 11)], none⟩, []⟩,
    ⟨6, ⟨(some 13), .op (.build [Value.int .u64 0, Value.int .u64 0, Value.int .u64 0, Value.int .u64 0, Value.int .u64 0, Value.int .u64 0] [(0, 5, (.tmp 8)), (5, 1, (.tmp 12))]), none⟩, []⟩,
    ⟨7, ⟨none, .op (.store 6 (.tmp 6) (.tmp 13)), none⟩, []⟩]
    [0, 1, 0, 4, 0, 31, 63, 127]) (.kill [3, 4, 5, 7, 8, 9, 10, 11, 12, 13]))
  .ret))
theorem cf_impl_Choices_free : chkFn Tryz.prog i_impl_Choices_free ac_impl_Choices_free [.cell 6 6 true] 14 = true := by decide +kernel
def fa_impl_Choices_free : FnA := ⟨ac_impl_Choices_free, [.cell 6 6 true], 14, false, true, [], .any, none⟩

/-- The checked code of impl Choices  back 1 1. -/
def ac_impl_Choices_back_1_1 : AC := (.seq (.post (.reg [⟨(some 5), .op (.mv (.const (Value.int .u64 0))), none⟩]) (.kill [5]))
  (.seq (.post (.draw [⟨0, ⟨(some 6), .op (.faddr (.tmp 1) 4), none⟩, []⟩,
    ⟨1, ⟨(some 7), .op (.load 1 false (.tmp 6)), none⟩, []⟩,
    ⟨2, ⟨(some 8), .op (.mv (.tmp 0)), none⟩, []⟩,
    ⟨3, ⟨(some 9), .op (.iaddrS (.tmp 7) (.tmp 8) 1), none⟩, []⟩,
    ⟨4, ⟨(some 10), .op (.load 1 false (.tmp 9)), none⟩, []⟩,
    ⟨5, ⟨(some 11), .op (.load 1 false (.tmp 2)), none⟩, []⟩,
    ⟨6, ⟨(some 12), .op (.iaddrS (.tmp 10) (.tmp 11) 1), none⟩, []⟩,
    ⟨7, ⟨(some 13), .op (.load 1 false (.tmp 12)), none⟩, []⟩,
    ⟨8, ⟨(some 14), .op (.faddr (.tmp 3) 1), none⟩, []⟩,
    ⟨9, ⟨(some 15), .op (.load 1 false (.tmp 14)), none⟩, []⟩,
    ⟨10, ⟨(some 16), .op (.iaddrS (.tmp 13) (.tmp 15) 1), none⟩, []⟩,
    ⟨11, ⟨(some 17), .op (.load 1 false (.tmp 16)), none⟩, []⟩,
    ⟨12, ⟨(some 18), .call (.func i_impl_bits) [(.tmp 17)], none⟩, []⟩,
    ⟨13, ⟨(some 5), .op (.mv (.tmp 18)), none⟩, []⟩]
    [0, 1, 0, 7, 15, 0, 63, 127, 0, 256, 1023, 2047, 4095, 8191]) (.kill [0, 1, 2, 3, 6, 7, 8, 9, 10, 11, 12, 13, 14, 15, 16, 17, 18]))
  .ret))
theorem cf_impl_Choices_back_1_1 : chkFn Tryz.prog i_impl_Choices_back_1_1 ac_impl_Choices_back_1_1 [.tmp 5] 19 = true := by decide +kernel
def fa_impl_Choices_back_1_1 : FnA := ⟨ac_impl_Choices_back_1_1, [.tmp 5], 19, false, true, [], .any, none⟩

/-- The checked code of impl Choices  back 1. -/
def lb_impl_Choices_back_1_0 : AC := (.post (.seq (.reg [⟨(some 20), .op (.bin .lss (.tmp 19) (.tmp 18)), none⟩])
  (.seq (.cond (.tmp 20) (.ghost (.kill [20]) .skip)
  (.ghost (.kill [1, 3, 4, 17, 18, 19, 20]) (.exit 0)))
  (.seq (.block 1 (.seq (.post (.reg [⟨(some 21), .op (.iaddrS (.tmp 17) (.tmp 19) 2), none⟩,
    ⟨(some 22), .op (.load 2 true (.tmp 21)), none⟩,
    ⟨(some 9), .op (.alloc (Value.agg #[Value.int .i64 0, Value.int .i64 0])), none⟩,
    ⟨none, .op (.store 2 (.tmp 9) (.tmp 22)), none⟩]) (.kill [21, 22]))
  (.post (.reg [⟨(some 23), .op (.mv (.tmp 7)), none⟩,
    ⟨(some 24), .op (.faddr (.tmp 9) 0), none⟩,
    ⟨(some 25), .op (.load 1 false (.tmp 24)), none⟩,
    ⟨(some 26), .op (.faddr (.tmp 3) 0), none⟩,
    ⟨(some 27), .op (.iaddrA (.tmp 26) (.tmp 25) 5 1), none⟩,
    ⟨(some 28), .op (.load 1 false (.tmp 27)), none⟩,
    ⟨(some 29), .op (.mkfn i_impl_Choices_back_1_1 [(.tmp 1), (.tmp 4), (.tmp 9)]), none⟩,
    ⟨(some 30), .call (.func i_impl_all) [(.tmp 28), (.tmp 29)], none⟩,
    ⟨(some 31), .op (.bin .or (.tmp 23) (.tmp 30)), none⟩,
    ⟨(some 7), .op (.mv (.tmp 31)), none⟩]) (.kill [9, 23, 24, 25, 26, 27, 28, 29, 30, 31]))))
  (.post (.reg [⟨(some 32), .op (.bin .add (.tmp 19) (.const (Value.int .i64 1))), none⟩,
    ⟨(some 19), .op (.mv (.tmp 32)), none⟩]) (.kill [32]))))) .nv)
def lo_impl_Choices_back_1_0 : AC := (.loop lb_impl_Choices_back_1_0)
def ac_impl_Choices_back_1 : AC := (.seq (.post (.reg [⟨(some 6), .op (.mv (.const (Value.int .u64 0))), none⟩]) (.kill [6]))
  (.seq (.reg [⟨(some 7), .op (.mv (.const (Value.int .u64 0))), none⟩])
  (.seq (.seq (.post (.draw [⟨0, ⟨(some 10), .op (.faddr (.tmp 1) 3), none⟩, []⟩,
    ⟨1, ⟨(some 11), .op (.load 1 false (.tmp 10)), none⟩, []⟩,
    ⟨2, ⟨(some 12), .op (.mv (.tmp 0)), none⟩, []⟩,
    ⟨3, ⟨(some 13), .op (.iaddrS (.tmp 11) (.tmp 12) 1), none⟩, []⟩,
    ⟨4, ⟨(some 14), .op (.load 1 false (.tmp 13)), none⟩, []⟩,
    ⟨5, ⟨(some 15), .op (.load 1 false (.tmp 2)), none⟩, []⟩,
    ⟨6, ⟨(some 16), .op (.iaddrS (.tmp 14) (.tmp 15) 1), none⟩, []⟩,
    ⟨7, ⟨(some 17), .op (.load 1 false (.tmp 16)), none⟩, []⟩,
    ⟨8, ⟨(some 18), .op (.len false (.tmp 17)), none⟩, []⟩,
    ⟨9, ⟨(some 19), .op (.mv (.const (Value.int .i64 0))), none⟩, []⟩]
    [0, 1, 0, 7, 15, 0, 63, 127, 255, 0]) (.kill [0, 2, 10, 11, 12, 13, 14, 15, 16]))
  (.post (.block 0 (.ghost .nv lo_impl_Choices_back_1_0)) .nv))
  (.ghost (.kill [1, 3, 4, 17, 18, 19]) (.seq (.post (.reg [⟨(some 33), .op (.mv (.tmp 7)), none⟩,
    ⟨(some 6), .op (.mv (.tmp 33)), none⟩]) (.kill [7, 33]))
  .ret)))))
theorem cf_impl_Choices_back_1 : chkFn Tryz.prog i_impl_Choices_back_1 ac_impl_Choices_back_1 [.tmp 6] 34 = true := by decide +kernel
def fa_impl_Choices_back_1 : FnA := ⟨ac_impl_Choices_back_1, [.tmp 6], 34, false, true, [], .any, none⟩

/-- The checked code of impl Choices  back. -/
def lb_impl_Choices_back_0 : AC := (.post (.seq (.reg [⟨(some 24), .op (.bin .lss (.tmp 23) (.const (Value.int .i64 5))), none⟩])
  (.seq (.cond (.tmp 24) (.ghost (.kill [24]) .skip)
  (.ghost (.kill [11, 22, 23, 24]) (.exit 0)))
  (.seq (.block 1 (.seq (.post (.reg [⟨(some 25), .op (.mv (.tmp 23)), none⟩,
    ⟨(some 26), .op (.idxArr (.tmp 22) (.tmp 23) 5 1 false), none⟩,
    ⟨(some 13), .op (.mv (.tmp 25)), none⟩,
    ⟨(some 14), .op (.mv (.tmp 26)), none⟩]) (.kill [25, 26]))
  (.post (.reg [⟨(some 27), .op (.mv (.tmp 13)), none⟩,
    ⟨(some 28), .op (.mv (.tmp 14)), none⟩,
    ⟨(some 29), .op (.mv (.tmp 11)), none⟩,
    ⟨(some 30), .call (.func i_impl_all) [(.tmp 28), (.tmp 29)], none⟩,
    ⟨(some 31), .op (.faddr (.tmp 12) 0), none⟩,
    ⟨(some 32), .op (.iaddrA (.tmp 31) (.tmp 27) 5 1), none⟩,
    ⟨none, .op (.store 1 (.tmp 32) (.tmp 30)), none⟩]) (.kill [13, 14, 27, 28, 29, 30, 31, 32]))))
  (.post (.reg [⟨(some 33), .op (.bin .add (.tmp 23) (.const (Value.int .i64 1))), none⟩,
    ⟨(some 23), .op (.mv (.tmp 33)), none⟩]) (.kill [33]))))) .nv)
def lo_impl_Choices_back_0 : AC := (.loop lb_impl_Choices_back_0)
def ac_impl_Choices_back : AC := (.seq (.post (.reg [⟨(some 5), .op (.box true (.tmp 0)), none⟩,
    ⟨(some 6), .op (.box true (.tmp 1)), none⟩,
    ⟨(some 7), .op (.box true (.tmp 2)), none⟩,
    ⟨(some 8), .op (.box true (.tmp 3)), none⟩,
    ⟨(some 9), .op (.box true (.tmp 4)), none⟩,
    ⟨(some 10), .op (.alloc (Value.agg #[Value.int .u64 0, Value.int .u64 0, Value.int .u64 0, Value.int .u64 0, Value.int .u64 0, Value.int .u64 0])), none⟩]) (.kill [0, 1, 2, 3, 4]))
  (.seq (.post (.reg [⟨(some 15), .op (.mkfn i_impl_Choices_back_1 [(.tmp 5), (.tmp 7), (.tmp 8), (.tmp 9)]), none⟩,
    ⟨(some 11), .op (.mv (.tmp 15)), none⟩]) (.kill [5, 7, 8, 9, 15]))
  (.seq (.post (.reg [⟨(some 16), .op (.faddr (.tmp 6) 5), none⟩,
    ⟨(some 17), .op (.load 1 false (.tmp 16)), none⟩,
    ⟨(some 18), .op (.mv (.tmp 11)), none⟩,
    ⟨(some 19), .call (.func i_impl_all) [(.tmp 17), (.tmp 18)], none⟩,
    ⟨(some 20), .op (.build [Value.int .u64 0, Value.int .u64 0, Value.int .u64 0, Value.int .u64 0, Value.int .u64 0, Value.int .u64 0] [(5, 1, (.tmp 19))]), none⟩,
    ⟨(some 12), .op (.alloc (Value.agg #[Value.int .u64 0, Value.int .u64 0, Value.int .u64 0, Value.int .u64 0, Value.int .u64 0, Value.int .u64 0])), none⟩,
    ⟨none, .op (.store 6 (.tmp 12) (.tmp 20)), none⟩]) (.kill [16, 17, 18, 19, 20]))
  (.seq (.seq (.post (.reg [⟨(some 21), .op (.faddr (.tmp 6) 0), none⟩,
    ⟨(some 22), .op (.load 5 true (.tmp 21)), none⟩,
    ⟨(some 23), .op (.mv (.const (Value.int .i64 0))), none⟩]) (.kill [6, 21]))
  (.post (.block 0 (.ghost .nv lo_impl_Choices_back_0)) .nv))
  (.ghost (.kill [11, 22, 23]) (.seq (.post (.reg [⟨(some 34), .op (.load 6 true (.tmp 12)), none⟩,
    ⟨none, .op (.store 6 (.tmp 10) (.tmp 34)), none⟩]) (.kill [12, 34]))
  .ret))))))
theorem cf_impl_Choices_back : chkFn Tryz.prog i_impl_Choices_back ac_impl_Choices_back [.cell 10 6 true] 35 = true := by decide +kernel
def fa_impl_Choices_back : FnA := ⟨ac_impl_Choices_back, [.cell 10 6 true], 35, false, true, [], .any, none⟩

/-- The checked code of impl kindOf. -/
def ac_impl_kindOf : AC := (.seq (.post (.reg [⟨(some 2), .op (.mv (.const (Value.int .i64 0))), none⟩]) (.kill [2]))
  (.seq (.post (.reg [⟨(some 3), .op (.mv (.tmp 0)), none⟩,
    ⟨(some 4), .call (.func i_strings_IndexByte) [(.const (Value.string ⟨#[40, 91, 41, 93, 97, 98]⟩)), (.tmp 3)], none⟩,
    ⟨(some 5), .op (.bin .rem (.tmp 4) (.const (Value.int .i64 2))), none⟩,
    ⟨(some 2), .op (.mv (.tmp 5)), none⟩]) (.kill [0, 3, 4, 5]))
  .ret))
theorem cf_impl_kindOf : chkFn Tryz.prog i_impl_kindOf ac_impl_kindOf [.tmp 2] 6 = true := by decide +kernel
def fa_impl_kindOf : FnA := ⟨ac_impl_kindOf, [.tmp 2], 6, false, true, [], .any, none⟩

/-- The checked code of impl isInner. -/
def ac_impl_isInner : AC := (.seq (.post (.reg [⟨(some 2), .op (.mv (.const (Value.bool false))), none⟩]) (.kill [2]))
  (.seq (.post (.reg [⟨(some 3), .op (.mv (.tmp 0)), none⟩,
    ⟨(some 4), .op (.bin .eql (.tmp 3) (.const (Value.int .u8 97))), none⟩,
    ⟨(some 5), .op (.mv (.tmp 4)), none⟩,
    ⟨(some 6), .op (.mv (.tmp 0)), some (5, false)⟩,
    ⟨(some 7), .op (.bin .eql (.tmp 6) (.const (Value.int .u8 98))), some (5, false)⟩,
    ⟨(some 8), .op (.pick (.tmp 5) (.const (Value.bool true)) (.tmp 7)), none⟩,
    ⟨(some 2), .op (.mv (.tmp 8)), none⟩]) (.kill [0, 3, 4, 5, 6, 7, 8]))
  .ret))
theorem cf_impl_isInner : chkFn Tryz.prog i_impl_isInner ac_impl_isInner [.tmp 2] 9 = true := by decide +kernel
def fa_impl_isInner : FnA := ⟨ac_impl_isInner, [.tmp 2], 9, false, true, [], .any, none⟩

/-- The checked code of impl Choices  known. -/
def lb_impl_Choices_known_0 : AC := (.post (.seq (.reg [⟨(some 16), .op (.bin .lss (.tmp 15) (.tmp 14)), none⟩])
  (.seq (.cond (.tmp 16) (.ghost (.kill [16]) .skip)
  (.ghost (.kill [1, 2, 6, 14, 15, 16]) (.exit 0)))
  (.seq (.block 1 (.seq (.post (.reg [⟨(some 17), .op (.mv (.tmp 15)), none⟩,
    ⟨(some 7), .op (.mv (.tmp 17)), none⟩]) (.kill [17]))
  (.seq (.post (.reg [⟨(some 18), .op (.mv (.tmp 1)), none⟩,
    ⟨(some 19), .op (.mv (.tmp 7)), none⟩,
    ⟨(some 20), .op (.idxStr (.tmp 18) (.tmp 19)), none⟩,
    ⟨(some 21), .call (.func i_impl_kindOf) [(.tmp 20)], none⟩,
    ⟨(some 22), .op (.mv (.tmp 6)), none⟩,
    ⟨(some 23), .op (.len false (.tmp 22)), none⟩,
    ⟨(some 8), .op (.mv (.tmp 21)), none⟩,
    ⟨(some 9), .op (.mv (.tmp 23)), none⟩]) (.kill [18, 19, 20, 21, 22, 23]))
  (.block 2 (.seq (.post (.reg [⟨(some 45), .op (.mv (.tmp 1)), none⟩,
    ⟨(some 46), .op (.mv (.tmp 7)), none⟩,
    ⟨(some 47), .op (.idxStr (.tmp 45) (.tmp 46)), none⟩,
    ⟨(some 48), .call (.func i_impl_isCall) [(.tmp 47)], none⟩,
    ⟨(some 44), .op (.mv (.tmp 48)), none⟩]) (.kill [45, 46, 47, 48]))
  (.cond (.tmp 44) (.ghost (.kill [7, 9, 44]) (.seq (.post (.post (.reg [⟨(some 49), .op (.mv (.tmp 6)), none⟩,
    ⟨(some 50), .op (.load 6 true (.tmp 5)), none⟩,
    ⟨(some 51), .op (.mv (.tmp 8)), none⟩,
    ⟨(some 52), .op (.build [Value.int .u64 0, Value.int .u64 0, Value.int .u64 0, Value.int .u64 0, Value.int .u64 0, Value.int .u64 0, Value.int .i64 0] [(0, 6, (.tmp 50)), (6, 1, (.tmp 51))]), none⟩,
    ⟨(some 53), .op (.lits true 7 1 (Value.agg #[Value.int .u64 0, Value.int .u64 0, Value.int .u64 0, Value.int .u64 0, Value.int .u64 0, Value.int .u64 0, Value.int .i64 0]) [(0, (.tmp 52))]), none⟩,
    ⟨(some 54), .op (.append (.tmp 49) (.tmp 53) 7 56), none⟩,
    ⟨(some 6), .op (.mv (.tmp 54)), none⟩]) (.kill [49, 50, 51, 52, 53, 54])) .nv)
  (.post (.reg [⟨(some 55), .op (.load 6 true (.tmp 2)), none⟩,
    ⟨(some 56), .op (.load 6 true (.tmp 5)), none⟩,
    ⟨(some 57), .op (.mv (.tmp 8)), none⟩,
    ⟨(some 58), .call (.func i_impl_Choices_call) [(.tmp 55), (.tmp 56), (.tmp 57)], none⟩,
    ⟨none, .op (.store 6 (.tmp 5) (.tmp 58)), none⟩]) (.kill [8, 55, 56, 57, 58]))))
  (.ghost (.kill [44]) (.seq (.post (.reg [⟨(some 60), .op (.mv (.tmp 1)), none⟩,
    ⟨(some 61), .op (.mv (.tmp 7)), none⟩,
    ⟨(some 62), .op (.idxStr (.tmp 60) (.tmp 61)), none⟩,
    ⟨(some 63), .call (.func i_impl_isInner) [(.tmp 62)], none⟩,
    ⟨(some 59), .op (.mv (.tmp 63)), none⟩]) (.kill [7, 60, 61, 62, 63]))
  (.cond (.tmp 59) (.ghost (.kill [9, 59]) (.post (.reg [⟨(some 64), .op (.load 6 true (.tmp 2)), none⟩,
    ⟨(some 65), .op (.load 6 true (.tmp 5)), none⟩,
    ⟨(some 66), .op (.mv (.tmp 8)), none⟩,
    ⟨(some 67), .call (.func i_impl_Choices_inner) [(.tmp 64), (.tmp 65), (.tmp 66)], none⟩,
    ⟨none, .op (.store 6 (.tmp 5) (.tmp 67)), none⟩]) (.kill [8, 64, 65, 66, 67])))
  (.ghost (.kill [59]) (.seq (.post (.reg [⟨(some 69), .op (.mv (.tmp 9)), none⟩,
    ⟨(some 70), .op (.bin .eql (.tmp 69) (.const (Value.int .i64 0))), none⟩,
    ⟨(some 68), .op (.mv (.tmp 70)), none⟩]) (.kill [69, 70]))
  (.cond (.tmp 68) (.ghost (.kill [9, 68]) (.post (.reg [⟨(some 71), .op (.load 6 true (.tmp 2)), none⟩,
    ⟨(some 72), .op (.load 6 true (.tmp 5)), none⟩,
    ⟨(some 73), .op (.mv (.tmp 8)), none⟩,
    ⟨(some 74), .call (.func i_impl_Choices_free) [(.tmp 71), (.tmp 72), (.tmp 73)], none⟩,
    ⟨none, .op (.store 6 (.tmp 5) (.tmp 74)), none⟩]) (.kill [8, 71, 72, 73, 74])))
  (.ghost (.kill [68]) (.seq (.post (.draw [⟨0, ⟨(some 24), .op (.load 6 true (.tmp 2)), none⟩, []⟩,
    ⟨1, ⟨(some 25), .op (.mv (.tmp 6)), none⟩, []⟩,
    ⟨2, ⟨(some 26), .op (.mv (.tmp 9)), none⟩, []⟩,
    ⟨3, ⟨(some 27), .op (.bin .sub (.tmp 26) (.const (Value.int .i64 1))), none⟩, []⟩,
    ⟨4, ⟨(some 28), .op (.iaddrS (.tmp 25) (.tmp 27) 7), none⟩, []⟩,
    ⟨5, ⟨(some 29), .op (.faddr (.tmp 28) 0), none⟩, []⟩,
    ⟨6, ⟨(some 30), .op (.load 6 true (.tmp 29)), none⟩, []⟩,
    ⟨7, ⟨(some 31), .op (.mv (.tmp 6)), none⟩, []⟩,
    ⟨8, ⟨(some 32), .op (.mv (.tmp 9)), none⟩, []⟩,
    ⟨9, ⟨(some 33), .op (.bin .sub (.tmp 32) (.const (Value.int .i64 1))), none⟩, []⟩,
    ⟨10, ⟨(some 34), .op (.iaddrS (.tmp 31) (.tmp 33) 7), none⟩, []⟩,
    ⟨11, ⟨(some 35), .op (.faddr (.tmp 34) 6), none⟩, []⟩,
    ⟨12, ⟨(some 36), .op (.load 1 false (.tmp 35)), none⟩, []⟩,
    ⟨13, ⟨(some 37), .op (.load 6 true (.tmp 5)), none⟩, []⟩,
    ⟨14, ⟨(some 38), .op (.mv (.tmp 8)), none⟩, []⟩,
    ⟨15, ⟨(some 39), .call (.func i_impl_Choices_back) [(.tmp 24), (.tmp 30), (.tmp 36), (.tmp 37), (.tmp 38)], none⟩, []⟩,
    ⟨16, ⟨none, .op (.store 6 (.tmp 5) (.tmp 39)), none⟩, []⟩]
    [0, 0, 0, 4, 14, 30, 62, 0, 0, 256, 896, 1920, 3968, 0, 0, 32767, 65535]) (.kill [8, 24, 25, 26, 27, 28, 29, 30, 31, 32, 33, 34, 35, 36, 37, 38, 39]))
  (.post (.post (.reg [⟨(some 40), .op (.mv (.tmp 6)), none⟩,
    ⟨(some 41), .op (.mv (.tmp 9)), none⟩,
    ⟨(some 42), .op (.bin .sub (.tmp 41) (.const (Value.int .i64 1))), none⟩,
    ⟨(some 43), .op (.slcS (.tmp 40) none (some (.tmp 42)) none 7), none⟩,
    ⟨(some 6), .op (.mv (.tmp 43)), none⟩]) (.kill [9, 40, 41, 42, 43])) .nv)))))))))))))))
  (.post (.reg [⟨(some 75), .op (.bin .add (.tmp 15) (.const (Value.int .i64 1))), none⟩,
    ⟨(some 15), .op (.mv (.tmp 75)), none⟩]) (.kill [75]))))) .nv)
def lo_impl_Choices_known_0 : AC := (.loop lb_impl_Choices_known_0)
def ac_impl_Choices_known : AC := (.seq (.post (.reg [⟨(some 2), .op (.box true (.tmp 0)), none⟩,
    ⟨(some 4), .op (.alloc (Value.agg #[Value.int .u64 0, Value.int .u64 0, Value.int .u64 0, Value.int .u64 0, Value.int .u64 0, Value.int .u64 0])), none⟩]) (.kill [0]))
  (.seq (.post (.reg [⟨(some 10), .op (.load 6 true (.tmp 2)), none⟩,
    ⟨(some 11), .call (.func i_impl_Choices_start) [(.tmp 10)], none⟩,
    ⟨(some 12), .op (.lits true 7 0 (Value.agg #[Value.int .u64 0, Value.int .u64 0, Value.int .u64 0, Value.int .u64 0, Value.int .u64 0, Value.int .u64 0, Value.int .i64 0]) []), none⟩,
    ⟨(some 5), .op (.alloc (Value.agg #[Value.int .u64 0, Value.int .u64 0, Value.int .u64 0, Value.int .u64 0, Value.int .u64 0, Value.int .u64 0])), none⟩,
    ⟨none, .op (.store 6 (.tmp 5) (.tmp 11)), none⟩,
    ⟨(some 6), .op (.mv (.tmp 12)), none⟩]) (.kill [10, 11, 12]))
  (.seq (.seq (.post (.reg [⟨(some 13), .op (.mv (.tmp 1)), none⟩,
    ⟨(some 14), .op (.len true (.tmp 13)), none⟩,
    ⟨(some 15), .op (.mv (.const (Value.int .i64 0))), none⟩]) (.kill [13]))
  (.post (.block 0 (.ghost (.ow 6 none 7) (.ghost .nv lo_impl_Choices_known_0))) .nv))
  (.ghost (.kill [1, 2, 6, 14, 15]) (.seq (.post (.reg [⟨(some 76), .op (.load 6 true (.tmp 5)), none⟩,
    ⟨none, .op (.store 6 (.tmp 4) (.tmp 76)), none⟩]) (.kill [5, 76]))
  .ret)))))
theorem cf_impl_Choices_known : chkFn Tryz.prog i_impl_Choices_known ac_impl_Choices_known [.cell 4 6 true] 77 = true := by decide +kernel
def fa_impl_Choices_known : FnA := ⟨ac_impl_Choices_known, [.cell 4 6 true], 77, false, true, [], .any, none⟩

/-- The checked code of impl PairsOf. -/
def lb_impl_PairsOf_0 : AC := (.seq (.reg [⟨(some 30), .op (.bin .lss (.tmp 29) (.tmp 28)), none⟩])
  (.seq (.cond (.tmp 30) (.ghost (.kill [30]) .skip)
  (.ghost (.kill [6, 28, 29, 30]) (.exit 1)))
  (.seq (.block 2 (.seq (.post (.reg [⟨(some 31), .op (.mv (.tmp 29)), none⟩,
    ⟨(some 8), .op (.mv (.tmp 31)), none⟩]) (.kill [31]))
  (.post (.reg [⟨(some 32), .op (.mv (.tmp 7)), none⟩,
    ⟨(some 33), .op (.mv (.tmp 8)), none⟩,
    ⟨(some 34), .op (.faddr (.tmp 6) 0), none⟩,
    ⟨(some 35), .op (.iaddrA (.tmp 34) (.tmp 33) 5 1), none⟩,
    ⟨(some 36), .op (.load 1 false (.tmp 35)), none⟩,
    ⟨(some 37), .call (.func i_impl_states) [(.tmp 36)], none⟩,
    ⟨(some 38), .op (.lits true 1 1 (Value.slice none 0 0) [(0, (.tmp 37))]), none⟩,
    ⟨(some 39), .op (.append (.tmp 32) (.tmp 38) 1 24), none⟩,
    ⟨(some 7), .op (.mv (.tmp 39)), none⟩]) (.kill [8, 32, 33, 34, 35, 36, 37, 38, 39]))))
  (.post (.reg [⟨(some 40), .op (.bin .add (.tmp 29) (.const (Value.int .i64 1))), none⟩,
    ⟨(some 29), .op (.mv (.tmp 40)), none⟩]) (.kill [40])))))
def lo_impl_PairsOf_0 : AC := (.loop lb_impl_PairsOf_0)
def ac_impl_PairsOf : AC := (.seq (.post (.reg [⟨(some 2), .op (.box true (.tmp 0)), none⟩,
    ⟨(some 4), .op (.mv (.const (Value.slice none 0 0))), none⟩,
    ⟨(some 5), .op (.mv (.const (Value.int .i64 0))), none⟩]) (.kill [0, 4, 5]))
  (.seq (.block 0 (.seq (.post (.reg [⟨(some 10), .op (.load 6 true (.tmp 2)), none⟩,
    ⟨(some 11), .call (.func i_impl_ValidChoices) [(.tmp 10)], none⟩,
    ⟨(some 12), .op (.un .not (.tmp 11)), none⟩,
    ⟨(some 13), .op (.mv (.tmp 12)), none⟩,
    ⟨(some 14), .op (.mv (.tmp 1)), some (13, false)⟩,
    ⟨(some 15), .call (.func i_impl_ValidWord) [(.tmp 14)], some (13, false)⟩,
    ⟨(some 16), .op (.un .not (.tmp 15)), some (13, false)⟩,
    ⟨(some 17), .op (.pick (.tmp 13) (.const (Value.bool true)) (.tmp 16)), none⟩,
    ⟨(some 9), .op (.mv (.tmp 17)), none⟩]) (.kill [10, 11, 12, 13, 14, 15, 16, 17]))
  (.cond (.tmp 9) (.ghost (.kill [1, 2, 9]) (.seq (.reg [⟨(some 4), .op (.mv (.const (Value.slice none 0 0))), none⟩,
    ⟨(some 5), .op (.mv (.const (Value.int .i64 1))), none⟩])
  .ret))
  (.ghost (.kill [9]) (.seq (.post (.reg [⟨(some 19), .op (.mv (.tmp 1)), none⟩,
    ⟨(some 20), .call (.func i_impl_isMatched) [(.tmp 19)], none⟩,
    ⟨(some 21), .op (.un .not (.tmp 20)), none⟩,
    ⟨(some 18), .op (.mv (.tmp 21)), none⟩]) (.kill [19, 20, 21]))
  (.cond (.tmp 18) (.ghost (.kill [1, 2, 18]) (.seq (.reg [⟨(some 4), .op (.mv (.const (Value.slice none 0 0))), none⟩,
    ⟨(some 5), .op (.mv (.const (Value.int .i64 4))), none⟩])
  .ret))
  (.ghost (.kill [18]) .skip)))))))
  (.seq (.post (.reg [⟨(some 22), .op (.load 6 true (.tmp 2)), none⟩,
    ⟨(some 23), .op (.mv (.tmp 1)), none⟩,
    ⟨(some 24), .call (.func i_impl_Choices_known) [(.tmp 22), (.tmp 23)], none⟩,
    ⟨(some 25), .op (.lits true 1 0 (Value.slice none 0 0) []), none⟩,
    ⟨(some 6), .op (.alloc (Value.agg #[Value.int .u64 0, Value.int .u64 0, Value.int .u64 0, Value.int .u64 0, Value.int .u64 0, Value.int .u64 0])), none⟩,
    ⟨none, .op (.store 6 (.tmp 6) (.tmp 24)), none⟩,
    ⟨(some 7), .op (.mv (.tmp 25)), none⟩]) (.kill [1, 22, 23, 24, 25]))
  (.seq (.seq (.post (.reg [⟨(some 26), .op (.faddr (.tmp 2) 2), none⟩,
    ⟨(some 27), .op (.load 1 false (.tmp 26)), none⟩,
    ⟨(some 28), .op (.len false (.tmp 27)), none⟩,
    ⟨(some 29), .op (.mv (.const (Value.int .i64 0))), none⟩]) (.kill [2, 26, 27]))
  (.block 1 (.ghost (.ow 7 none 1) lo_impl_PairsOf_0)))
  (.ghost (.kill [6, 28, 29]) (.seq (.post (.reg [⟨(some 41), .op (.mv (.tmp 7)), none⟩,
    ⟨(some 4), .op (.mv (.tmp 41)), none⟩,
    ⟨(some 5), .op (.mv (.const (Value.int .i64 0))), none⟩]) (.kill [7, 41]))
  .ret))))))
theorem cf_impl_PairsOf : chkFn Tryz.prog i_impl_PairsOf ac_impl_PairsOf [.tmp 4, .tmp 5] 42 = true := by decide +kernel
def fa_impl_PairsOf : FnA := ⟨ac_impl_PairsOf, [.tmp 4, .tmp 5], 42, false, false, [(.agg [.any, (.lst 1 .any), (.lst 1 .any), (.lst 1 (.lst 1 (.lst 2 .any))), (.lst 1 (.lst 1 (.lst 1 (.lst 1 .any)))), (.lst 1 (.lst 1 (.lst 1 .any)))]), .any], .any, none⟩

/-- The checked code of laws eqInt64S. -/
def lb_laws_eqInt64S_0 : AC := (.seq (.seq (.post (.reg [⟨(some 11), .op (.mv (.tmp 5)), none⟩,
    ⟨(some 12), .op (.mv (.tmp 0)), none⟩,
    ⟨(some 13), .op (.len false (.tmp 12)), none⟩,
    ⟨(some 14), .op (.bin .lss (.tmp 11) (.tmp 13)), none⟩]) (.kill [11, 12, 13]))
  (.cond (.tmp 14) (.ghost (.kill [14]) .skip)
  (.ghost (.kill [0, 1, 5, 14]) (.exit 0))))
  (.seq (.block 1 (.seq (.post (.draw [⟨0, ⟨(some 17), .op (.mv (.tmp 0)), none⟩, []⟩,
    ⟨1, ⟨(some 18), .op (.mv (.tmp 5)), none⟩, []⟩,
    ⟨2, ⟨(some 19), .op (.iaddrS (.tmp 17) (.tmp 18) 1), none⟩, []⟩,
    ⟨3, ⟨(some 20), .op (.load 1 false (.tmp 19)), none⟩, []⟩,
    ⟨4, ⟨(some 21), .op (.mv (.tmp 1)), none⟩, []⟩,
    ⟨5, ⟨(some 22), .op (.mv (.tmp 5)), none⟩, []⟩,
    ⟨6, ⟨(some 23), .op (.iaddrS (.tmp 21) (.tmp 22) 1), none⟩, []⟩,
    ⟨7, ⟨(some 24), .op (.load 1 false (.tmp 23)), none⟩, []⟩,
    ⟨8, ⟨(some 25), .op (.bin .neq (.tmp 20) (.tmp 24)), none⟩, []⟩]
    [0, 0, 3, 7, 0, 0, 48, 112, 255]) (.kill [17, 18, 19, 20, 21, 22, 23, 24]))
  (.cond (.tmp 25) (.ghost (.kill [0, 1, 5, 25]) (.seq (.reg [⟨(some 4), .op (.mv (.const (Value.bool false))), none⟩])
  .ret))
  (.ghost (.kill [25]) .skip))))
  (.post (.reg [⟨(some 15), .op (.mv (.tmp 5)), none⟩,
    ⟨(some 16), .op (.bin .add (.tmp 15) (.const (Value.int .i64 1))), none⟩,
    ⟨(some 5), .op (.mv (.tmp 16)), none⟩]) (.kill [15, 16]))))
def lo_laws_eqInt64S_0 : AC := (.loop lb_laws_eqInt64S_0)
def ac_laws_eqInt64S : AC := (.seq (.post (.reg [⟨(some 4), .op (.mv (.const (Value.bool false))), none⟩]) (.kill [4]))
  (.seq (.seq (.post (.reg [⟨(some 6), .op (.mv (.tmp 0)), none⟩,
    ⟨(some 7), .op (.len false (.tmp 6)), none⟩,
    ⟨(some 8), .op (.mv (.tmp 1)), none⟩,
    ⟨(some 9), .op (.len false (.tmp 8)), none⟩,
    ⟨(some 10), .op (.bin .neq (.tmp 7) (.tmp 9)), none⟩]) (.kill [6, 7, 8, 9]))
  (.cond (.tmp 10) (.ghost (.kill [0, 1, 10]) (.seq (.reg [⟨(some 4), .op (.mv (.const (Value.bool false))), none⟩])
  .ret))
  (.ghost (.kill [10]) .skip)))
  (.seq (.seq (.reg [⟨(some 5), .op (.mv (.const (Value.int .i64 0))), none⟩])
  (.block 0 lo_laws_eqInt64S_0))
  (.ghost (.kill [0, 1, 5]) (.seq (.reg [⟨(some 4), .op (.mv (.const (Value.bool true))), none⟩])
  .ret)))))
theorem cf_laws_eqInt64S : chkFn Tryz.prog i_laws_eqInt64S ac_laws_eqInt64S [.tmp 4] 26 = true := by decide +kernel
def fa_laws_eqInt64S : FnA := ⟨ac_laws_eqInt64S, [.tmp 4], 26, false, true, [(.lst 1 .any), (.lst 1 .any)], .any, none⟩

/-- The checked code of laws eqInt64SS. -/
def lb_laws_eqInt64SS_0 : AC := (.seq (.seq (.post (.reg [⟨(some 11), .op (.mv (.tmp 5)), none⟩,
    ⟨(some 12), .op (.mv (.tmp 0)), none⟩,
    ⟨(some 13), .op (.len false (.tmp 12)), none⟩,
    ⟨(some 14), .op (.bin .lss (.tmp 11) (.tmp 13)), none⟩]) (.kill [11, 12, 13]))
  (.cond (.tmp 14) (.ghost (.kill [14]) .skip)
  (.ghost (.kill [0, 1, 5, 14]) (.exit 0))))
  (.seq (.block 1 (.seq (.post (.draw [⟨0, ⟨(some 17), .op (.mv (.tmp 0)), none⟩, []⟩,
    ⟨1, ⟨(some 18), .op (.mv (.tmp 5)), none⟩, []⟩,
    ⟨2, ⟨(some 19), .op (.iaddrS (.tmp 17) (.tmp 18) 1), none⟩, []⟩,
    ⟨3, ⟨(some 20), .op (.load 1 false (.tmp 19)), none⟩, []⟩,
    ⟨4, ⟨(some 21), .op (.mv (.tmp 1)), none⟩, []⟩,
    ⟨5, ⟨(some 22), .op (.mv (.tmp 5)), none⟩, []⟩,
    ⟨6, ⟨(some 23), .op (.iaddrS (.tmp 21) (.tmp 22) 1), none⟩, []⟩,
    ⟨7, ⟨(some 24), .op (.load 1 false (.tmp 23)), none⟩, []⟩,
    ⟨8, ⟨(some 25), .call (.func i_laws_eqInt64S) [(.tmp 20), (.tmp 24)], none⟩, []⟩,
    ⟨9, ⟨(some 26), .op (.un .not (.tmp 25)), none⟩, []⟩]
    [0, 0, 3, 7, 0, 0, 48, 112, 255, 511]) (.kill [17, 18, 19, 20, 21, 22, 23, 24, 25]))
  (.cond (.tmp 26) (.ghost (.kill [0, 1, 5, 26]) (.seq (.reg [⟨(some 4), .op (.mv (.const (Value.bool false))), none⟩])
  .ret))
  (.ghost (.kill [26]) .skip))))
  (.post (.reg [⟨(some 15), .op (.mv (.tmp 5)), none⟩,
    ⟨(some 16), .op (.bin .add (.tmp 15) (.const (Value.int .i64 1))), none⟩,
    ⟨(some 5), .op (.mv (.tmp 16)), none⟩]) (.kill [15, 16]))))
def lo_laws_eqInt64SS_0 : AC := (.loop lb_laws_eqInt64SS_0)
def ac_laws_eqInt64SS : AC := (.seq (.post (.reg [⟨(some 4), .op (.mv (.const (Value.bool false))), none⟩]) (.kill [4]))
  (.seq (.seq (.post (.reg [⟨(some 6), .op (.mv (.tmp 0)), none⟩,
    ⟨(some 7), .op (.len false (.tmp 6)), none⟩,
    ⟨(some 8), .op (.mv (.tmp 1)), none⟩,
    ⟨(some 9), .op (.len false (.tmp 8)), none⟩,
    ⟨(some 10), .op (.bin .neq (.tmp 7) (.tmp 9)), none⟩]) (.kill [6, 7, 8, 9]))
  (.cond (.tmp 10) (.ghost (.kill [0, 1, 10]) (.seq (.reg [⟨(some 4), .op (.mv (.const (Value.bool false))), none⟩])
  .ret))
  (.ghost (.kill [10]) .skip)))
  (.seq (.seq (.reg [⟨(some 5), .op (.mv (.const (Value.int .i64 0))), none⟩])
  (.block 0 lo_laws_eqInt64SS_0))
  (.ghost (.kill [0, 1, 5]) (.seq (.reg [⟨(some 4), .op (.mv (.const (Value.bool true))), none⟩])
  .ret)))))
theorem cf_laws_eqInt64SS : chkFn Tryz.prog i_laws_eqInt64SS ac_laws_eqInt64SS [.tmp 4] 27 = true := by decide +kernel
def fa_laws_eqInt64SS : FnA := ⟨ac_laws_eqInt64SS, [.tmp 4], 27, false, true, [(.lst 1 (.lst 1 .any)), (.lst 1 (.lst 1 .any))], .any, none⟩

/-- The checked code of laws eqBoolS. -/
def lb_laws_eqBoolS_0 : AC := (.seq (.seq (.post (.reg [⟨(some 11), .op (.mv (.tmp 5)), none⟩,
    ⟨(some 12), .op (.mv (.tmp 0)), none⟩,
    ⟨(some 13), .op (.len false (.tmp 12)), none⟩,
    ⟨(some 14), .op (.bin .lss (.tmp 11) (.tmp 13)), none⟩]) (.kill [11, 12, 13]))
  (.cond (.tmp 14) (.ghost (.kill [14]) .skip)
  (.ghost (.kill [0, 1, 5, 14]) (.exit 0))))
  (.seq (.block 1 (.seq (.post (.draw [⟨0, ⟨(some 17), .op (.mv (.tmp 0)), none⟩, []⟩,
    ⟨1, ⟨(some 18), .op (.mv (.tmp 5)), none⟩, []⟩,
    ⟨2, ⟨(some 19), .op (.iaddrS (.tmp 17) (.tmp 18) 1), none⟩, []⟩,
    ⟨3, ⟨(some 20), .op (.load 1 false (.tmp 19)), none⟩, []⟩,
    ⟨4, ⟨(some 21), .op (.mv (.tmp 1)), none⟩, []⟩,
    ⟨5, ⟨(some 22), .op (.mv (.tmp 5)), none⟩, []⟩,
    ⟨6, ⟨(some 23), .op (.iaddrS (.tmp 21) (.tmp 22) 1), none⟩, []⟩,
    ⟨7, ⟨(some 24), .op (.load 1 false (.tmp 23)), none⟩, []⟩,
    ⟨8, ⟨(some 25), .op (.eqb true (.tmp 20) (.tmp 24)), none⟩, []⟩]
    [0, 0, 3, 7, 0, 0, 48, 112, 255]) (.kill [17, 18, 19, 20, 21, 22, 23, 24]))
  (.cond (.tmp 25) (.ghost (.kill [0, 1, 5, 25]) (.seq (.reg [⟨(some 4), .op (.mv (.const (Value.bool false))), none⟩])
  .ret))
  (.ghost (.kill [25]) .skip))))
  (.post (.reg [⟨(some 15), .op (.mv (.tmp 5)), none⟩,
    ⟨(some 16), .op (.bin .add (.tmp 15) (.const (Value.int .i64 1))), none⟩,
    ⟨(some 5), .op (.mv (.tmp 16)), none⟩]) (.kill [15, 16]))))
def lo_laws_eqBoolS_0 : AC := (.loop lb_laws_eqBoolS_0)
def ac_laws_eqBoolS : AC := (.seq (.post (.reg [⟨(some 4), .op (.mv (.const (Value.bool false))), none⟩]) (.kill [4]))
  (.seq (.seq (.post (.reg [⟨(some 6), .op (.mv (.tmp 0)), none⟩,
    ⟨(some 7), .op (.len false (.tmp 6)), none⟩,
    ⟨(some 8), .op (.mv (.tmp 1)), none⟩,
    ⟨(some 9), .op (.len false (.tmp 8)), none⟩,
    ⟨(some 10), .op (.bin .neq (.tmp 7) (.tmp 9)), none⟩]) (.kill [6, 7, 8, 9]))
  (.cond (.tmp 10) (.ghost (.kill [0, 1, 10]) (.seq (.reg [⟨(some 4), .op (.mv (.const (Value.bool false))), none⟩])
  .ret))
  (.ghost (.kill [10]) .skip)))
  (.seq (.seq (.reg [⟨(some 5), .op (.mv (.const (Value.int .i64 0))), none⟩])
  (.block 0 lo_laws_eqBoolS_0))
  (.ghost (.kill [0, 1, 5]) (.seq (.reg [⟨(some 4), .op (.mv (.const (Value.bool true))), none⟩])
  .ret)))))
theorem cf_laws_eqBoolS : chkFn Tryz.prog i_laws_eqBoolS ac_laws_eqBoolS [.tmp 4] 26 = true := by decide +kernel
def fa_laws_eqBoolS : FnA := ⟨ac_laws_eqBoolS, [.tmp 4], 26, false, true, [], .any, none⟩

/-- The checked code of laws eqPush. -/
def ac_laws_eqPush : AC := (.seq (.post (.reg [⟨(some 2), .op (.box true (.tmp 0)), none⟩,
    ⟨(some 3), .op (.box true (.tmp 1)), none⟩,
    ⟨(some 4), .op (.mv (.const (Value.bool false))), none⟩]) (.kill [0, 1, 4]))
  (.seq (.seq (.post (.reg [⟨(some 5), .op (.faddr (.tmp 2) 0), none⟩,
    ⟨(some 6), .op (.load 1 false (.tmp 5)), none⟩,
    ⟨(some 7), .op (.faddr (.tmp 3) 0), none⟩,
    ⟨(some 8), .op (.load 1 false (.tmp 7)), none⟩,
    ⟨(some 9), .op (.bin .neq (.tmp 6) (.tmp 8)), none⟩]) (.kill [5, 6, 7, 8]))
  (.cond (.tmp 9) (.ghost (.kill [2, 3, 9]) (.seq (.reg [⟨(some 4), .op (.mv (.const (Value.bool false))), none⟩])
  .ret))
  (.ghost (.kill [9]) .skip)))
  (.seq (.seq (.post (.reg [⟨(some 10), .op (.faddr (.tmp 2) 1), none⟩,
    ⟨(some 11), .op (.load 1 false (.tmp 10)), none⟩,
    ⟨(some 12), .op (.faddr (.tmp 3) 1), none⟩,
    ⟨(some 13), .op (.load 1 false (.tmp 12)), none⟩,
    ⟨(some 14), .op (.bin .neq (.tmp 11) (.tmp 13)), none⟩]) (.kill [2, 3, 10, 11, 12, 13]))
  (.cond (.tmp 14) (.ghost (.kill [14]) (.seq (.reg [⟨(some 4), .op (.mv (.const (Value.bool false))), none⟩])
  .ret))
  (.ghost (.kill [14]) .skip)))
  (.seq (.reg [⟨(some 4), .op (.mv (.const (Value.bool true))), none⟩])
  .ret))))
theorem cf_laws_eqPush : chkFn Tryz.prog i_laws_eqPush ac_laws_eqPush [.tmp 4] 15 = true := by decide +kernel
def fa_laws_eqPush : FnA := ⟨ac_laws_eqPush, [.tmp 4], 15, false, true, [], .any, none⟩

/-- The checked code of laws eqPushS. -/
def lb_laws_eqPushS_0 : AC := (.seq (.seq (.post (.reg [⟨(some 11), .op (.mv (.tmp 5)), none⟩,
    ⟨(some 12), .op (.mv (.tmp 0)), none⟩,
    ⟨(some 13), .op (.len false (.tmp 12)), none⟩,
    ⟨(some 14), .op (.bin .lss (.tmp 11) (.tmp 13)), none⟩]) (.kill [11, 12, 13]))
  (.cond (.tmp 14) (.ghost (.kill [14]) .skip)
  (.ghost (.kill [0, 1, 5, 14]) (.exit 0))))
  (.seq (.block 1 (.seq (.post (.draw [⟨0, ⟨(some 17), .op (.mv (.tmp 0)), none⟩, []⟩,
    ⟨1, ⟨(some 18), .op (.mv (.tmp 5)), none⟩, []⟩,
    ⟨2, ⟨(some 19), .op (.iaddrS (.tmp 17) (.tmp 18) 2), none⟩, []⟩,
    ⟨3, ⟨(some 20), .op (.load 2 true (.tmp 19)), none⟩, []⟩,
    ⟨4, ⟨(some 21), .op (.mv (.tmp 1)), none⟩, []⟩,
    ⟨5, ⟨(some 22), .op (.mv (.tmp 5)), none⟩, []⟩,
    ⟨6, ⟨(some 23), .op (.iaddrS (.tmp 21) (.tmp 22) 2), none⟩, []⟩,
    ⟨7, ⟨(some 24), .op (.load 2 true (.tmp 23)), none⟩, []⟩,
    ⟨8, ⟨(some 25), .call (.func i_laws_eqPush) [(.tmp 20), (.tmp 24)], none⟩, []⟩,
    ⟨9, ⟨(some 26), .op (.un .not (.tmp 25)), none⟩, []⟩]
    [0, 0, 3, 7, 0, 0, 48, 112, 255, 511]) (.kill [17, 18, 19, 20, 21, 22, 23, 24, 25]))
  (.cond (.tmp 26) (.ghost (.kill [0, 1, 5, 26]) (.seq (.reg [⟨(some 4), .op (.mv (.const (Value.bool false))), none⟩])
  .ret))
  (.ghost (.kill [26]) .skip))))
  (.post (.reg [⟨(some 15), .op (.mv (.tmp 5)), none⟩,
    ⟨(some 16), .op (.bin .add (.tmp 15) (.const (Value.int .i64 1))), none⟩,
    ⟨(some 5), .op (.mv (.tmp 16)), none⟩]) (.kill [15, 16]))))
def lo_laws_eqPushS_0 : AC := (.loop lb_laws_eqPushS_0)
def ac_laws_eqPushS : AC := (.seq (.post (.reg [⟨(some 4), .op (.mv (.const (Value.bool false))), none⟩]) (.kill [4]))
  (.seq (.seq (.post (.reg [⟨(some 6), .op (.mv (.tmp 0)), none⟩,
    ⟨(some 7), .op (.len false (.tmp 6)), none⟩,
    ⟨(some 8), .op (.mv (.tmp 1)), none⟩,
    ⟨(some 9), .op (.len false (.tmp 8)), none⟩,
    ⟨(some 10), .op (.bin .neq (.tmp 7) (.tmp 9)), none⟩]) (.kill [6, 7, 8, 9]))
  (.cond (.tmp 10) (.ghost (.kill [0, 1, 10]) (.seq (.reg [⟨(some 4), .op (.mv (.const (Value.bool false))), none⟩])
  .ret))
  (.ghost (.kill [10]) .skip)))
  (.seq (.seq (.reg [⟨(some 5), .op (.mv (.const (Value.int .i64 0))), none⟩])
  (.block 0 lo_laws_eqPushS_0))
  (.ghost (.kill [0, 1, 5]) (.seq (.reg [⟨(some 4), .op (.mv (.const (Value.bool true))), none⟩])
  .ret)))))
theorem cf_laws_eqPushS : chkFn Tryz.prog i_laws_eqPushS ac_laws_eqPushS [.tmp 4] 27 = true := by decide +kernel
def fa_laws_eqPushS : FnA := ⟨ac_laws_eqPushS, [.tmp 4], 27, false, true, [], .any, none⟩

/-- The checked code of laws eqPushSS. -/
def lb_laws_eqPushSS_0 : AC := (.seq (.seq (.post (.reg [⟨(some 11), .op (.mv (.tmp 5)), none⟩,
    ⟨(some 12), .op (.mv (.tmp 0)), none⟩,
    ⟨(some 13), .op (.len false (.tmp 12)), none⟩,
    ⟨(some 14), .op (.bin .lss (.tmp 11) (.tmp 13)), none⟩]) (.kill [11, 12, 13]))
  (.cond (.tmp 14) (.ghost (.kill [14]) .skip)
  (.ghost (.kill [0, 1, 5, 14]) (.exit 0))))
  (.seq (.block 1 (.seq (.post (.draw [⟨0, ⟨(some 17), .op (.mv (.tmp 0)), none⟩, []⟩,
    ⟨1, ⟨(some 18), .op (.mv (.tmp 5)), none⟩, []⟩,
    ⟨2, ⟨(some 19), .op (.iaddrS (.tmp 17) (.tmp 18) 1), none⟩, []⟩,
    ⟨3, ⟨(some 20), .op (.load 1 false (.tmp 19)), none⟩, []⟩,
    ⟨4, ⟨(some 21), .op (.mv (.tmp 1)), none⟩, []⟩,
    ⟨5, ⟨(some 22), .op (.mv (.tmp 5)), none⟩, []⟩,
    ⟨6, ⟨(some 23), .op (.iaddrS (.tmp 21) (.tmp 22) 1), none⟩, []⟩,
    ⟨7, ⟨(some 24), .op (.load 1 false (.tmp 23)), none⟩, []⟩,
    ⟨8, ⟨(some 25), .call (.func i_laws_eqPushS) [(.tmp 20), (.tmp 24)], none⟩, []⟩,
    ⟨9, ⟨(some 26), .op (.un .not (.tmp 25)), none⟩, []⟩]
    [0, 0, 3, 7, 0, 0, 48, 112, 255, 511]) (.kill [17, 18, 19, 20, 21, 22, 23, 24, 25]))
  (.cond (.tmp 26) (.ghost (.kill [0, 1, 5, 26]) (.seq (.reg [⟨(some 4), .op (.mv (.const (Value.bool false))), none⟩])
  .ret))
  (.ghost (.kill [26]) .skip))))
  (.post (.reg [⟨(some 15), .op (.mv (.tmp 5)), none⟩,
    ⟨(some 16), .op (.bin .add (.tmp 15) (.const (Value.int .i64 1))), none⟩,
    ⟨(some 5), .op (.mv (.tmp 16)), none⟩]) (.kill [15, 16]))))
def lo_laws_eqPushSS_0 : AC := (.loop lb_laws_eqPushSS_0)
def ac_laws_eqPushSS : AC := (.seq (.post (.reg [⟨(some 4), .op (.mv (.const (Value.bool false))), none⟩]) (.kill [4]))
  (.seq (.seq (.post (.reg [⟨(some 6), .op (.mv (.tmp 0)), none⟩,
    ⟨(some 7), .op (.len false (.tmp 6)), none⟩,
    ⟨(some 8), .op (.mv (.tmp 1)), none⟩,
    ⟨(some 9), .op (.len false (.tmp 8)), none⟩,
    ⟨(some 10), .op (.bin .neq (.tmp 7) (.tmp 9)), none⟩]) (.kill [6, 7, 8, 9]))
  (.cond (.tmp 10) (.ghost (.kill [0, 1, 10]) (.seq (.reg [⟨(some 4), .op (.mv (.const (Value.bool false))), none⟩])
  .ret))
  (.ghost (.kill [10]) .skip)))
  (.seq (.seq (.reg [⟨(some 5), .op (.mv (.const (Value.int .i64 0))), none⟩])
  (.block 0 lo_laws_eqPushSS_0))
  (.ghost (.kill [0, 1, 5]) (.seq (.reg [⟨(some 4), .op (.mv (.const (Value.bool true))), none⟩])
  .ret)))))
theorem cf_laws_eqPushSS : chkFn Tryz.prog i_laws_eqPushSS ac_laws_eqPushSS [.tmp 4] 27 = true := by decide +kernel
def fa_laws_eqPushSS : FnA := ⟨ac_laws_eqPushSS, [.tmp 4], 27, false, true, [], .any, none⟩

/-- The checked code of laws eqPushSSS. -/
def lb_laws_eqPushSSS_0 : AC := (.seq (.seq (.post (.reg [⟨(some 11), .op (.mv (.tmp 5)), none⟩,
    ⟨(some 12), .op (.mv (.tmp 0)), none⟩,
    ⟨(some 13), .op (.len false (.tmp 12)), none⟩,
    ⟨(some 14), .op (.bin .lss (.tmp 11) (.tmp 13)), none⟩]) (.kill [11, 12, 13]))
  (.cond (.tmp 14) (.ghost (.kill [14]) .skip)
  (.ghost (.kill [0, 1, 5, 14]) (.exit 0))))
  (.seq (.block 1 (.seq (.post (.draw [⟨0, ⟨(some 17), .op (.mv (.tmp 0)), none⟩, []⟩,
    ⟨1, ⟨(some 18), .op (.mv (.tmp 5)), none⟩, []⟩,
    ⟨2, ⟨(some 19), .op (.iaddrS (.tmp 17) (.tmp 18) 1), none⟩, []⟩,
    ⟨3, ⟨(some 20), .op (.load 1 false (.tmp 19)), none⟩, []⟩,
    ⟨4, ⟨(some 21), .op (.mv (.tmp 1)), none⟩, []⟩,
    ⟨5, ⟨(some 22), .op (.mv (.tmp 5)), none⟩, []⟩,
    ⟨6, ⟨(some 23), .op (.iaddrS (.tmp 21) (.tmp 22) 1), none⟩, []⟩,
    ⟨7, ⟨(some 24), .op (.load 1 false (.tmp 23)), none⟩, []⟩,
    ⟨8, ⟨(some 25), .call (.func i_laws_eqPushSS) [(.tmp 20), (.tmp 24)], none⟩, []⟩,
    ⟨9, ⟨(some 26), .op (.un .not (.tmp 25)), none⟩, []⟩]
    [0, 0, 3, 7, 0, 0, 48, 112, 255, 511]) (.kill [17, 18, 19, 20, 21, 22, 23, 24, 25]))
  (.cond (.tmp 26) (.ghost (.kill [0, 1, 5, 26]) (.seq (.reg [⟨(some 4), .op (.mv (.const (Value.bool false))), none⟩])
  .ret))
  (.ghost (.kill [26]) .skip))))
  (.post (.reg [⟨(some 15), .op (.mv (.tmp 5)), none⟩,
    ⟨(some 16), .op (.bin .add (.tmp 15) (.const (Value.int .i64 1))), none⟩,
    ⟨(some 5), .op (.mv (.tmp 16)), none⟩]) (.kill [15, 16]))))
def lo_laws_eqPushSSS_0 : AC := (.loop lb_laws_eqPushSSS_0)
def ac_laws_eqPushSSS : AC := (.seq (.post (.reg [⟨(some 4), .op (.mv (.const (Value.bool false))), none⟩]) (.kill [4]))
  (.seq (.seq (.post (.reg [⟨(some 6), .op (.mv (.tmp 0)), none⟩,
    ⟨(some 7), .op (.len false (.tmp 6)), none⟩,
    ⟨(some 8), .op (.mv (.tmp 1)), none⟩,
    ⟨(some 9), .op (.len false (.tmp 8)), none⟩,
    ⟨(some 10), .op (.bin .neq (.tmp 7) (.tmp 9)), none⟩]) (.kill [6, 7, 8, 9]))
  (.cond (.tmp 10) (.ghost (.kill [0, 1, 10]) (.seq (.reg [⟨(some 4), .op (.mv (.const (Value.bool false))), none⟩])
  .ret))
  (.ghost (.kill [10]) .skip)))
  (.seq (.seq (.reg [⟨(some 5), .op (.mv (.const (Value.int .i64 0))), none⟩])
  (.block 0 lo_laws_eqPushSSS_0))
  (.ghost (.kill [0, 1, 5]) (.seq (.reg [⟨(some 4), .op (.mv (.const (Value.bool true))), none⟩])
  .ret)))))
theorem cf_laws_eqPushSSS : chkFn Tryz.prog i_laws_eqPushSSS ac_laws_eqPushSSS [.tmp 4] 27 = true := by decide +kernel
def fa_laws_eqPushSSS : FnA := ⟨ac_laws_eqPushSSS, [.tmp 4], 27, false, true, [], .any, none⟩

/-- The checked code of laws eqInt64SSS. -/
def lb_laws_eqInt64SSS_0 : AC := (.seq (.seq (.post (.reg [⟨(some 11), .op (.mv (.tmp 5)), none⟩,
    ⟨(some 12), .op (.mv (.tmp 0)), none⟩,
    ⟨(some 13), .op (.len false (.tmp 12)), none⟩,
    ⟨(some 14), .op (.bin .lss (.tmp 11) (.tmp 13)), none⟩]) (.kill [11, 12, 13]))
  (.cond (.tmp 14) (.ghost (.kill [14]) .skip)
  (.ghost (.kill [0, 1, 5, 14]) (.exit 0))))
  (.seq (.block 1 (.seq (.post (.draw [⟨0, ⟨(some 17), .op (.mv (.tmp 0)), none⟩, []⟩,
    ⟨1, ⟨(some 18), .op (.mv (.tmp 5)), none⟩, []⟩,
    ⟨2, ⟨(some 19), .op (.iaddrS (.tmp 17) (.tmp 18) 1), none⟩, []⟩,
    ⟨3, ⟨(some 20), .op (.load 1 false (.tmp 19)), none⟩, []⟩,
    ⟨4, ⟨(some 21), .op (.mv (.tmp 1)), none⟩, []⟩,
    ⟨5, ⟨(some 22), .op (.mv (.tmp 5)), none⟩, []⟩,
    ⟨6, ⟨(some 23), .op (.iaddrS (.tmp 21) (.tmp 22) 1), none⟩, []⟩,
    ⟨7, ⟨(some 24), .op (.load 1 false (.tmp 23)), none⟩, []⟩,
    ⟨8, ⟨(some 25), .call (.func i_laws_eqInt64SS) [(.tmp 20), (.tmp 24)], none⟩, []⟩,
    ⟨9, ⟨(some 26), .op (.un .not (.tmp 25)), none⟩, []⟩]
    [0, 0, 3, 7, 0, 0, 48, 112, 255, 511]) (.kill [17, 18, 19, 20, 21, 22, 23, 24, 25]))
  (.cond (.tmp 26) (.ghost (.kill [0, 1, 5, 26]) (.seq (.reg [⟨(some 4), .op (.mv (.const (Value.bool false))), none⟩])
  .ret))
  (.ghost (.kill [26]) .skip))))
  (.post (.reg [⟨(some 15), .op (.mv (.tmp 5)), none⟩,
    ⟨(some 16), .op (.bin .add (.tmp 15) (.const (Value.int .i64 1))), none⟩,
    ⟨(some 5), .op (.mv (.tmp 16)), none⟩]) (.kill [15, 16]))))
def lo_laws_eqInt64SSS_0 : AC := (.loop lb_laws_eqInt64SSS_0)
def ac_laws_eqInt64SSS : AC := (.seq (.post (.reg [⟨(some 4), .op (.mv (.const (Value.bool false))), none⟩]) (.kill [4]))
  (.seq (.seq (.post (.reg [⟨(some 6), .op (.mv (.tmp 0)), none⟩,
    ⟨(some 7), .op (.len false (.tmp 6)), none⟩,
    ⟨(some 8), .op (.mv (.tmp 1)), none⟩,
    ⟨(some 9), .op (.len false (.tmp 8)), none⟩,
    ⟨(some 10), .op (.bin .neq (.tmp 7) (.tmp 9)), none⟩]) (.kill [6, 7, 8, 9]))
  (.cond (.tmp 10) (.ghost (.kill [0, 1, 10]) (.seq (.reg [⟨(some 4), .op (.mv (.const (Value.bool false))), none⟩])
  .ret))
  (.ghost (.kill [10]) .skip)))
  (.seq (.seq (.reg [⟨(some 5), .op (.mv (.const (Value.int .i64 0))), none⟩])
  (.block 0 lo_laws_eqInt64SSS_0))
  (.ghost (.kill [0, 1, 5]) (.seq (.reg [⟨(some 4), .op (.mv (.const (Value.bool true))), none⟩])
  .ret)))))
theorem cf_laws_eqInt64SSS : chkFn Tryz.prog i_laws_eqInt64SSS ac_laws_eqInt64SSS [.tmp 4] 27 = true := by decide +kernel
def fa_laws_eqInt64SSS : FnA := ⟨ac_laws_eqInt64SSS, [.tmp 4], 27, false, true, [], .any, none⟩

/-- The checked code of laws eqInt64SSSS. -/
def lb_laws_eqInt64SSSS_0 : AC := (.seq (.seq (.post (.reg [⟨(some 11), .op (.mv (.tmp 5)), none⟩,
    ⟨(some 12), .op (.mv (.tmp 0)), none⟩,
    ⟨(some 13), .op (.len false (.tmp 12)), none⟩,
    ⟨(some 14), .op (.bin .lss (.tmp 11) (.tmp 13)), none⟩]) (.kill [11, 12, 13]))
  (.cond (.tmp 14) (.ghost (.kill [14]) .skip)
  (.ghost (.kill [0, 1, 5, 14]) (.exit 0))))
  (.seq (.block 1 (.seq (.post (.draw [⟨0, ⟨(some 17), .op (.mv (.tmp 0)), none⟩, []⟩,
    ⟨1, ⟨(some 18), .op (.mv (.tmp 5)), none⟩, []⟩,
    ⟨2, ⟨(some 19), .op (.iaddrS (.tmp 17) (.tmp 18) 1), none⟩, []⟩,
    ⟨3, ⟨(some 20), .op (.load 1 false (.tmp 19)), none⟩, []⟩,
    ⟨4, ⟨(some 21), .op (.mv (.tmp 1)), none⟩, []⟩,
    ⟨5, ⟨(some 22), .op (.mv (.tmp 5)), none⟩, []⟩,
    ⟨6, ⟨(some 23), .op (.iaddrS (.tmp 21) (.tmp 22) 1), none⟩, []⟩,
    ⟨7, ⟨(some 24), .op (.load 1 false (.tmp 23)), none⟩, []⟩,
    ⟨8, ⟨(some 25), .call (.func i_laws_eqInt64SSS) [(.tmp 20), (.tmp 24)], none⟩, []⟩,
    ⟨9, ⟨(some 26), .op (.un .not (.tmp 25)), none⟩, []⟩]
    [0, 0, 3, 7, 0, 0, 48, 112, 255, 511]) (.kill [17, 18, 19, 20, 21, 22, 23, 24, 25]))
  (.cond (.tmp 26) (.ghost (.kill [0, 1, 5, 26]) (.seq (.reg [⟨(some 4), .op (.mv (.const (Value.bool false))), none⟩])
  .ret))
  (.ghost (.kill [26]) .skip))))
  (.post (.reg [⟨(some 15), .op (.mv (.tmp 5)), none⟩,
    ⟨(some 16), .op (.bin .add (.tmp 15) (.const (Value.int .i64 1))), none⟩,
    ⟨(some 5), .op (.mv (.tmp 16)), none⟩]) (.kill [15, 16]))))
def lo_laws_eqInt64SSSS_0 : AC := (.loop lb_laws_eqInt64SSSS_0)
def ac_laws_eqInt64SSSS : AC := (.seq (.post (.reg [⟨(some 4), .op (.mv (.const (Value.bool false))), none⟩]) (.kill [4]))
  (.seq (.seq (.post (.reg [⟨(some 6), .op (.mv (.tmp 0)), none⟩,
    ⟨(some 7), .op (.len false (.tmp 6)), none⟩,
    ⟨(some 8), .op (.mv (.tmp 1)), none⟩,
    ⟨(some 9), .op (.len false (.tmp 8)), none⟩,
    ⟨(some 10), .op (.bin .neq (.tmp 7) (.tmp 9)), none⟩]) (.kill [6, 7, 8, 9]))
  (.cond (.tmp 10) (.ghost (.kill [0, 1, 10]) (.seq (.reg [⟨(some 4), .op (.mv (.const (Value.bool false))), none⟩])
  .ret))
  (.ghost (.kill [10]) .skip)))
  (.seq (.seq (.reg [⟨(some 5), .op (.mv (.const (Value.int .i64 0))), none⟩])
  (.block 0 lo_laws_eqInt64SSSS_0))
  (.ghost (.kill [0, 1, 5]) (.seq (.reg [⟨(some 4), .op (.mv (.const (Value.bool true))), none⟩])
  .ret)))))
theorem cf_laws_eqInt64SSSS : chkFn Tryz.prog i_laws_eqInt64SSSS ac_laws_eqInt64SSSS [.tmp 4] 27 = true := by decide +kernel
def fa_laws_eqInt64SSSS : FnA := ⟨ac_laws_eqInt64SSSS, [.tmp 4], 27, false, true, [], .any, none⟩

/-- The checked code of laws eqChoices. -/
def ac_laws_eqChoices : AC := (.seq (.post (.reg [⟨(some 2), .op (.box true (.tmp 0)), none⟩,
    ⟨(some 3), .op (.box true (.tmp 1)), none⟩,
    ⟨(some 4), .op (.mv (.const (Value.bool false))), none⟩]) (.kill [0, 1, 4]))
  (.seq (.seq (.post (.reg [⟨(some 5), .op (.faddr (.tmp 2) 0), none⟩,
    ⟨(some 6), .op (.load 1 false (.tmp 5)), none⟩,
    ⟨(some 7), .op (.faddr (.tmp 3) 0), none⟩,
    ⟨(some 8), .op (.load 1 false (.tmp 7)), none⟩,
    ⟨(some 9), .op (.bin .neq (.tmp 6) (.tmp 8)), none⟩]) (.kill [5, 6, 7, 8]))
  (.cond (.tmp 9) (.ghost (.kill [2, 3, 9]) (.seq (.reg [⟨(some 4), .op (.mv (.const (Value.bool false))), none⟩])
  .ret))
  (.ghost (.kill [9]) .skip)))
  (.seq (.seq (.post (.reg [⟨(some 10), .op (.faddr (.tmp 2) 1), none⟩,
    ⟨(some 11), .op (.load 1 false (.tmp 10)), none⟩,
    ⟨(some 12), .op (.faddr (.tmp 3) 1), none⟩,
    ⟨(some 13), .op (.load 1 false (.tmp 12)), none⟩,
    ⟨(some 14), .call (.func i_laws_eqInt64S) [(.tmp 11), (.tmp 13)], none⟩,
    ⟨(some 15), .op (.un .not (.tmp 14)), none⟩]) (.kill [10, 11, 12, 13, 14]))
  (.cond (.tmp 15) (.ghost (.kill [2, 3, 15]) (.seq (.reg [⟨(some 4), .op (.mv (.const (Value.bool false))), none⟩])
  .ret))
  (.ghost (.kill [15]) .skip)))
  (.seq (.seq (.post (.reg [⟨(some 16), .op (.faddr (.tmp 2) 2), none⟩,
    ⟨(some 17), .op (.load 1 false (.tmp 16)), none⟩,
    ⟨(some 18), .op (.faddr (.tmp 3) 2), none⟩,
    ⟨(some 19), .op (.load 1 false (.tmp 18)), none⟩,
    ⟨(some 20), .call (.func i_laws_eqBoolS) [(.tmp 17), (.tmp 19)], none⟩,
    ⟨(some 21), .op (.un .not (.tmp 20)), none⟩]) (.kill [16, 17, 18, 19, 20]))
  (.cond (.tmp 21) (.ghost (.kill [2, 3, 21]) (.seq (.reg [⟨(some 4), .op (.mv (.const (Value.bool false))), none⟩])
  .ret))
  (.ghost (.kill [21]) .skip)))
  (.seq (.seq (.post (.reg [⟨(some 22), .op (.faddr (.tmp 2) 3), none⟩,
    ⟨(some 23), .op (.load 1 false (.tmp 22)), none⟩,
    ⟨(some 24), .op (.faddr (.tmp 3) 3), none⟩,
    ⟨(some 25), .op (.load 1 false (.tmp 24)), none⟩,
    ⟨(some 26), .call (.func i_laws_eqPushSSS) [(.tmp 23), (.tmp 25)], none⟩,
    ⟨(some 27), .op (.un .not (.tmp 26)), none⟩]) (.kill [22, 23, 24, 25, 26]))
  (.cond (.tmp 27) (.ghost (.kill [2, 3, 27]) (.seq (.reg [⟨(some 4), .op (.mv (.const (Value.bool false))), none⟩])
  .ret))
  (.ghost (.kill [27]) .skip)))
  (.seq (.seq (.post (.reg [⟨(some 28), .op (.faddr (.tmp 2) 4), none⟩,
    ⟨(some 29), .op (.load 1 false (.tmp 28)), none⟩,
    ⟨(some 30), .op (.faddr (.tmp 3) 4), none⟩,
    ⟨(some 31), .op (.load 1 false (.tmp 30)), none⟩,
    ⟨(some 32), .call (.func i_laws_eqInt64SSSS) [(.tmp 29), (.tmp 31)], none⟩,
    ⟨(some 33), .op (.un .not (.tmp 32)), none⟩]) (.kill [28, 29, 30, 31, 32]))
  (.cond (.tmp 33) (.ghost (.kill [2, 3, 33]) (.seq (.reg [⟨(some 4), .op (.mv (.const (Value.bool false))), none⟩])
  .ret))
  (.ghost (.kill [33]) .skip)))
  (.seq (.seq (.post (.reg [⟨(some 34), .op (.faddr (.tmp 2) 5), none⟩,
    ⟨(some 35), .op (.load 1 false (.tmp 34)), none⟩,
    ⟨(some 36), .op (.faddr (.tmp 3) 5), none⟩,
    ⟨(some 37), .op (.load 1 false (.tmp 36)), none⟩,
    ⟨(some 38), .call (.func i_laws_eqInt64SSS) [(.tmp 35), (.tmp 37)], none⟩,
    ⟨(some 39), .op (.un .not (.tmp 38)), none⟩]) (.kill [2, 3, 34, 35, 36, 37, 38]))
  (.cond (.tmp 39) (.ghost (.kill [39]) (.seq (.reg [⟨(some 4), .op (.mv (.const (Value.bool false))), none⟩])
  .ret))
  (.ghost (.kill [39]) .skip)))
  (.seq (.reg [⟨(some 4), .op (.mv (.const (Value.bool true))), none⟩])
  .ret))))))))
theorem cf_laws_eqChoices : chkFn Tryz.prog i_laws_eqChoices ac_laws_eqChoices [.tmp 4] 40 = true := by decide +kernel
def fa_laws_eqChoices : FnA := ⟨ac_laws_eqChoices, [.tmp 4], 40, false, true, [(.agg [.any, (.lst 1 .any), (.lst 1 .any), (.lst 1 (.lst 1 (.lst 2 .any))), (.lst 1 (.lst 1 (.lst 1 (.lst 1 .any)))), (.lst 1 (.lst 1 (.lst 1 .any)))]), (.agg [.any, (.lst 1 .any), (.lst 1 .any), (.lst 1 (.lst 1 (.lst 2 .any))), (.lst 1 (.lst 1 (.lst 1 (.lst 1 .any)))), (.lst 1 (.lst 1 (.lst 1 .any)))])], .any, none⟩

/-- The checked code of laws markInt64S. -/
def lb_laws_markInt64S_0 : AC := (.seq (.seq (.post (.reg [⟨(some 6), .op (.mv (.tmp 5)), none⟩,
    ⟨(some 7), .op (.mv (.tmp 0)), none⟩,
    ⟨(some 8), .op (.len false (.tmp 7)), none⟩,
    ⟨(some 9), .op (.bin .lss (.tmp 6) (.tmp 8)), none⟩]) (.kill [6, 7, 8]))
  (.cond (.tmp 9) (.ghost (.kill [9]) .skip)
  (.ghost (.kill [0, 5, 9]) (.exit 0))))
  (.seq (.block 1 (.seq (.post (.reg [⟨(some 12), .op (.mv (.tmp 0)), none⟩,
    ⟨(some 13), .op (.mv (.tmp 5)), none⟩,
    ⟨(some 14), .op (.mv (.tmp 1)), none⟩,
    ⟨(some 15), .op (.iaddrS (.tmp 12) (.tmp 13) 1), none⟩,
    ⟨none, .op (.store 1 (.tmp 15) (.tmp 14)), none⟩]) (.kill [12, 13, 14, 15]))
  (.post (.reg [⟨(some 16), .op (.mv (.tmp 1)), none⟩,
    ⟨(some 17), .op (.bin .add (.tmp 16) (.const (Value.int .i64 1))), none⟩,
    ⟨(some 1), .op (.mv (.tmp 17)), none⟩]) (.kill [16, 17]))))
  (.post (.reg [⟨(some 10), .op (.mv (.tmp 5)), none⟩,
    ⟨(some 11), .op (.bin .add (.tmp 10) (.const (Value.int .i64 1))), none⟩,
    ⟨(some 5), .op (.mv (.tmp 11)), none⟩]) (.kill [10, 11]))))
def lo_laws_markInt64S_0 : AC := (.loop lb_laws_markInt64S_0)
def ac_laws_markInt64S : AC := (.seq (.post (.reg [⟨(some 4), .op (.mv (.const (Value.int .i64 0))), none⟩]) (.kill [4]))
  (.seq (.seq (.reg [⟨(some 5), .op (.mv (.const (Value.int .i64 0))), none⟩])
  (.block 0 lo_laws_markInt64S_0))
  (.ghost (.kill [0, 5]) (.seq (.post (.reg [⟨(some 18), .op (.mv (.tmp 1)), none⟩,
    ⟨(some 4), .op (.mv (.tmp 18)), none⟩]) (.kill [1, 18]))
  .ret))))
theorem cf_laws_markInt64S : chkFn Tryz.prog i_laws_markInt64S ac_laws_markInt64S [.tmp 4] 19 = true := by decide +kernel
def fa_laws_markInt64S : FnA := ⟨ac_laws_markInt64S, [.tmp 4], 19, true, false, [], .any, none⟩

/-- The checked code of laws markBoolS. -/
def lb_laws_markBoolS_0 : AC := (.seq (.seq (.post (.reg [⟨(some 6), .op (.mv (.tmp 5)), none⟩,
    ⟨(some 7), .op (.mv (.tmp 0)), none⟩,
    ⟨(some 8), .op (.len false (.tmp 7)), none⟩,
    ⟨(some 9), .op (.bin .lss (.tmp 6) (.tmp 8)), none⟩]) (.kill [6, 7, 8]))
  (.cond (.tmp 9) (.ghost (.kill [9]) .skip)
  (.ghost (.kill [0, 5, 9]) (.exit 0))))
  (.seq (.block 1 (.seq (.post (.reg [⟨(some 12), .op (.mv (.tmp 0)), none⟩,
    ⟨(some 13), .op (.mv (.tmp 5)), none⟩,
    ⟨(some 14), .op (.mv (.tmp 1)), none⟩,
    ⟨(some 15), .op (.bin .rem (.tmp 14) (.const (Value.int .i64 3))), none⟩,
    ⟨(some 16), .op (.bin .eql (.tmp 15) (.const (Value.int .i64 0))), none⟩,
    ⟨(some 17), .op (.iaddrS (.tmp 12) (.tmp 13) 1), none⟩,
    ⟨none, .op (.store 1 (.tmp 17) (.tmp 16)), none⟩]) (.kill [12, 13, 14, 15, 16, 17]))
  (.post (.reg [⟨(some 18), .op (.mv (.tmp 1)), none⟩,
    ⟨(some 19), .op (.bin .add (.tmp 18) (.const (Value.int .i64 1))), none⟩,
    ⟨(some 1), .op (.mv (.tmp 19)), none⟩]) (.kill [18, 19]))))
  (.post (.reg [⟨(some 10), .op (.mv (.tmp 5)), none⟩,
    ⟨(some 11), .op (.bin .add (.tmp 10) (.const (Value.int .i64 1))), none⟩,
    ⟨(some 5), .op (.mv (.tmp 11)), none⟩]) (.kill [10, 11]))))
def lo_laws_markBoolS_0 : AC := (.loop lb_laws_markBoolS_0)
def ac_laws_markBoolS : AC := (.seq (.post (.reg [⟨(some 4), .op (.mv (.const (Value.int .i64 0))), none⟩]) (.kill [4]))
  (.seq (.seq (.reg [⟨(some 5), .op (.mv (.const (Value.int .i64 0))), none⟩])
  (.block 0 lo_laws_markBoolS_0))
  (.ghost (.kill [0, 5]) (.seq (.post (.reg [⟨(some 20), .op (.mv (.tmp 1)), none⟩,
    ⟨(some 4), .op (.mv (.tmp 20)), none⟩]) (.kill [1, 20]))
  .ret))))
theorem cf_laws_markBoolS : chkFn Tryz.prog i_laws_markBoolS ac_laws_markBoolS [.tmp 4] 21 = true := by decide +kernel
def fa_laws_markBoolS : FnA := ⟨ac_laws_markBoolS, [.tmp 4], 21, true, false, [], .any, none⟩

/-- The checked code of laws markPushS. -/
def lb_laws_markPushS_0 : AC := (.seq (.seq (.post (.reg [⟨(some 6), .op (.mv (.tmp 5)), none⟩,
    ⟨(some 7), .op (.mv (.tmp 0)), none⟩,
    ⟨(some 8), .op (.len false (.tmp 7)), none⟩,
    ⟨(some 9), .op (.bin .lss (.tmp 6) (.tmp 8)), none⟩]) (.kill [6, 7, 8]))
  (.cond (.tmp 9) (.ghost (.kill [9]) .skip)
  (.ghost (.kill [0, 5, 9]) (.exit 0))))
  (.seq (.block 1 (.seq (.post (.reg [⟨(some 12), .op (.mv (.tmp 0)), none⟩,
    ⟨(some 13), .op (.mv (.tmp 5)), none⟩,
    ⟨(some 14), .op (.mv (.tmp 1)), none⟩,
    ⟨(some 15), .op (.iaddrS (.tmp 12) (.tmp 13) 2), none⟩,
    ⟨(some 16), .op (.faddr (.tmp 15) 0), none⟩,
    ⟨none, .op (.store 1 (.tmp 16) (.tmp 14)), none⟩]) (.kill [12, 13, 14, 15, 16]))
  (.seq (.post (.reg [⟨(some 17), .op (.mv (.tmp 1)), none⟩,
    ⟨(some 18), .op (.bin .add (.tmp 17) (.const (Value.int .i64 1))), none⟩,
    ⟨(some 1), .op (.mv (.tmp 18)), none⟩]) (.kill [17, 18]))
  (.seq (.post (.reg [⟨(some 19), .op (.mv (.tmp 0)), none⟩,
    ⟨(some 20), .op (.mv (.tmp 5)), none⟩,
    ⟨(some 21), .op (.mv (.tmp 1)), none⟩,
    ⟨(some 22), .op (.iaddrS (.tmp 19) (.tmp 20) 2), none⟩,
    ⟨(some 23), .op (.faddr (.tmp 22) 1), none⟩,
    ⟨none, .op (.store 1 (.tmp 23) (.tmp 21)), none⟩]) (.kill [19, 20, 21, 22, 23]))
  (.post (.reg [⟨(some 24), .op (.mv (.tmp 1)), none⟩,
    ⟨(some 25), .op (.bin .add (.tmp 24) (.const (Value.int .i64 1))), none⟩,
    ⟨(some 1), .op (.mv (.tmp 25)), none⟩]) (.kill [24, 25]))))))
  (.post (.reg [⟨(some 10), .op (.mv (.tmp 5)), none⟩,
    ⟨(some 11), .op (.bin .add (.tmp 10) (.const (Value.int .i64 1))), none⟩,
    ⟨(some 5), .op (.mv (.tmp 11)), none⟩]) (.kill [10, 11]))))
def lo_laws_markPushS_0 : AC := (.loop lb_laws_markPushS_0)
def ac_laws_markPushS : AC := (.seq (.post (.reg [⟨(some 4), .op (.mv (.const (Value.int .i64 0))), none⟩]) (.kill [4]))
  (.seq (.seq (.reg [⟨(some 5), .op (.mv (.const (Value.int .i64 0))), none⟩])
  (.block 0 lo_laws_markPushS_0))
  (.ghost (.kill [0, 5]) (.seq (.post (.reg [⟨(some 26), .op (.mv (.tmp 1)), none⟩,
    ⟨(some 4), .op (.mv (.tmp 26)), none⟩]) (.kill [1, 26]))
  .ret))))
theorem cf_laws_markPushS : chkFn Tryz.prog i_laws_markPushS ac_laws_markPushS [.tmp 4] 27 = true := by decide +kernel
def fa_laws_markPushS : FnA := ⟨ac_laws_markPushS, [.tmp 4], 27, true, false, [], .any, none⟩

/-- The checked code of laws markPushSS. -/
def lb_laws_markPushSS_0 : AC := (.seq (.seq (.post (.reg [⟨(some 6), .op (.mv (.tmp 5)), none⟩,
    ⟨(some 7), .op (.mv (.tmp 0)), none⟩,
    ⟨(some 8), .op (.len false (.tmp 7)), none⟩,
    ⟨(some 9), .op (.bin .lss (.tmp 6) (.tmp 8)), none⟩]) (.kill [6, 7, 8]))
  (.cond (.tmp 9) (.ghost (.kill [9]) .skip)
  (.ghost (.kill [0, 5, 9]) (.exit 0))))
  (.seq (.block 1 (.post (.reg [⟨(some 12), .op (.mv (.tmp 0)), none⟩,
    ⟨(some 13), .op (.mv (.tmp 5)), none⟩,
    ⟨(some 14), .op (.iaddrS (.tmp 12) (.tmp 13) 1), none⟩,
    ⟨(some 15), .op (.load 1 false (.tmp 14)), none⟩,
    ⟨(some 16), .op (.mv (.tmp 1)), none⟩,
    ⟨(some 17), .call (.func i_laws_markPushS) [(.tmp 15), (.tmp 16)], none⟩,
    ⟨(some 1), .op (.mv (.tmp 17)), none⟩]) (.kill [12, 13, 14, 15, 16, 17])))
  (.post (.reg [⟨(some 10), .op (.mv (.tmp 5)), none⟩,
    ⟨(some 11), .op (.bin .add (.tmp 10) (.const (Value.int .i64 1))), none⟩,
    ⟨(some 5), .op (.mv (.tmp 11)), none⟩]) (.kill [10, 11]))))
def lo_laws_markPushSS_0 : AC := (.loop lb_laws_markPushSS_0)
def ac_laws_markPushSS : AC := (.seq (.post (.reg [⟨(some 4), .op (.mv (.const (Value.int .i64 0))), none⟩]) (.kill [4]))
  (.seq (.seq (.reg [⟨(some 5), .op (.mv (.const (Value.int .i64 0))), none⟩])
  (.block 0 lo_laws_markPushSS_0))
  (.ghost (.kill [0, 5]) (.seq (.post (.reg [⟨(some 18), .op (.mv (.tmp 1)), none⟩,
    ⟨(some 4), .op (.mv (.tmp 18)), none⟩]) (.kill [1, 18]))
  .ret))))
theorem cf_laws_markPushSS : chkFn Tryz.prog i_laws_markPushSS ac_laws_markPushSS [.tmp 4] 19 = true := by decide +kernel
def fa_laws_markPushSS : FnA := ⟨ac_laws_markPushSS, [.tmp 4], 19, true, false, [], .any, none⟩

/-- The checked code of laws markPushSSS. -/
def lb_laws_markPushSSS_0 : AC := (.seq (.seq (.post (.reg [⟨(some 6), .op (.mv (.tmp 5)), none⟩,
    ⟨(some 7), .op (.mv (.tmp 0)), none⟩,
    ⟨(some 8), .op (.len false (.tmp 7)), none⟩,
    ⟨(some 9), .op (.bin .lss (.tmp 6) (.tmp 8)), none⟩]) (.kill [6, 7, 8]))
  (.cond (.tmp 9) (.ghost (.kill [9]) .skip)
  (.ghost (.kill [0, 5, 9]) (.exit 0))))
  (.seq (.block 1 (.post (.reg [⟨(some 12), .op (.mv (.tmp 0)), none⟩,
    ⟨(some 13), .op (.mv (.tmp 5)), none⟩,
    ⟨(some 14), .op (.iaddrS (.tmp 12) (.tmp 13) 1), none⟩,
    ⟨(some 15), .op (.load 1 false (.tmp 14)), none⟩,
    ⟨(some 16), .op (.mv (.tmp 1)), none⟩,
    ⟨(some 17), .call (.func i_laws_markPushSS) [(.tmp 15), (.tmp 16)], none⟩,
    ⟨(some 1), .op (.mv (.tmp 17)), none⟩]) (.kill [12, 13, 14, 15, 16, 17])))
  (.post (.reg [⟨(some 10), .op (.mv (.tmp 5)), none⟩,
    ⟨(some 11), .op (.bin .add (.tmp 10) (.const (Value.int .i64 1))), none⟩,
    ⟨(some 5), .op (.mv (.tmp 11)), none⟩]) (.kill [10, 11]))))
def lo_laws_markPushSSS_0 : AC := (.loop lb_laws_markPushSSS_0)
def ac_laws_markPushSSS : AC := (.seq (.post (.reg [⟨(some 4), .op (.mv (.const (Value.int .i64 0))), none⟩]) (.kill [4]))
  (.seq (.seq (.reg [⟨(some 5), .op (.mv (.const (Value.int .i64 0))), none⟩])
  (.block 0 lo_laws_markPushSSS_0))
  (.ghost (.kill [0, 5]) (.seq (.post (.reg [⟨(some 18), .op (.mv (.tmp 1)), none⟩,
    ⟨(some 4), .op (.mv (.tmp 18)), none⟩]) (.kill [1, 18]))
  .ret))))
theorem cf_laws_markPushSSS : chkFn Tryz.prog i_laws_markPushSSS ac_laws_markPushSSS [.tmp 4] 19 = true := by decide +kernel
def fa_laws_markPushSSS : FnA := ⟨ac_laws_markPushSSS, [.tmp 4], 19, true, false, [], .any, none⟩

/-- The checked code of laws markInt64SS. -/
def lb_laws_markInt64SS_0 : AC := (.seq (.seq (.post (.reg [⟨(some 6), .op (.mv (.tmp 5)), none⟩,
    ⟨(some 7), .op (.mv (.tmp 0)), none⟩,
    ⟨(some 8), .op (.len false (.tmp 7)), none⟩,
    ⟨(some 9), .op (.bin .lss (.tmp 6) (.tmp 8)), none⟩]) (.kill [6, 7, 8]))
  (.cond (.tmp 9) (.ghost (.kill [9]) .skip)
  (.ghost (.kill [0, 5, 9]) (.exit 0))))
  (.seq (.block 1 (.post (.reg [⟨(some 12), .op (.mv (.tmp 0)), none⟩,
    ⟨(some 13), .op (.mv (.tmp 5)), none⟩,
    ⟨(some 14), .op (.iaddrS (.tmp 12) (.tmp 13) 1), none⟩,
    ⟨(some 15), .op (.load 1 false (.tmp 14)), none⟩,
    ⟨(some 16), .op (.mv (.tmp 1)), none⟩,
    ⟨(some 17), .call (.func i_laws_markInt64S) [(.tmp 15), (.tmp 16)], none⟩,
    ⟨(some 1), .op (.mv (.tmp 17)), none⟩]) (.kill [12, 13, 14, 15, 16, 17])))
  (.post (.reg [⟨(some 10), .op (.mv (.tmp 5)), none⟩,
    ⟨(some 11), .op (.bin .add (.tmp 10) (.const (Value.int .i64 1))), none⟩,
    ⟨(some 5), .op (.mv (.tmp 11)), none⟩]) (.kill [10, 11]))))
def lo_laws_markInt64SS_0 : AC := (.loop lb_laws_markInt64SS_0)
def ac_laws_markInt64SS : AC := (.seq (.post (.reg [⟨(some 4), .op (.mv (.const (Value.int .i64 0))), none⟩]) (.kill [4]))
  (.seq (.seq (.reg [⟨(some 5), .op (.mv (.const (Value.int .i64 0))), none⟩])
  (.block 0 lo_laws_markInt64SS_0))
  (.ghost (.kill [0, 5]) (.seq (.post (.reg [⟨(some 18), .op (.mv (.tmp 1)), none⟩,
    ⟨(some 4), .op (.mv (.tmp 18)), none⟩]) (.kill [1, 18]))
  .ret))))
theorem cf_laws_markInt64SS : chkFn Tryz.prog i_laws_markInt64SS ac_laws_markInt64SS [.tmp 4] 19 = true := by decide +kernel
def fa_laws_markInt64SS : FnA := ⟨ac_laws_markInt64SS, [.tmp 4], 19, true, false, [], .any, none⟩

/-- The checked code of laws markInt64SSS. -/
def lb_laws_markInt64SSS_0 : AC := (.seq (.seq (.post (.reg [⟨(some 6), .op (.mv (.tmp 5)), none⟩,
    ⟨(some 7), .op (.mv (.tmp 0)), none⟩,
    ⟨(some 8), .op (.len false (.tmp 7)), none⟩,
    ⟨(some 9), .op (.bin .lss (.tmp 6) (.tmp 8)), none⟩]) (.kill [6, 7, 8]))
  (.cond (.tmp 9) (.ghost (.kill [9]) .skip)
  (.ghost (.kill [0, 5, 9]) (.exit 0))))
  (.seq (.block 1 (.post (.reg [⟨(some 12), .op (.mv (.tmp 0)), none⟩,
    ⟨(some 13), .op (.mv (.tmp 5)), none⟩,
    ⟨(some 14), .op (.iaddrS (.tmp 12) (.tmp 13) 1), none⟩,
    ⟨(some 15), .op (.load 1 false (.tmp 14)), none⟩,
    ⟨(some 16), .op (.mv (.tmp 1)), none⟩,
    ⟨(some 17), .call (.func i_laws_markInt64SS) [(.tmp 15), (.tmp 16)], none⟩,
    ⟨(some 1), .op (.mv (.tmp 17)), none⟩]) (.kill [12, 13, 14, 15, 16, 17])))
  (.post (.reg [⟨(some 10), .op (.mv (.tmp 5)), none⟩,
    ⟨(some 11), .op (.bin .add (.tmp 10) (.const (Value.int .i64 1))), none⟩,
    ⟨(some 5), .op (.mv (.tmp 11)), none⟩]) (.kill [10, 11]))))
def lo_laws_markInt64SSS_0 : AC := (.loop lb_laws_markInt64SSS_0)
def ac_laws_markInt64SSS : AC := (.seq (.post (.reg [⟨(some 4), .op (.mv (.const (Value.int .i64 0))), none⟩]) (.kill [4]))
  (.seq (.seq (.reg [⟨(some 5), .op (.mv (.const (Value.int .i64 0))), none⟩])
  (.block 0 lo_laws_markInt64SSS_0))
  (.ghost (.kill [0, 5]) (.seq (.post (.reg [⟨(some 18), .op (.mv (.tmp 1)), none⟩,
    ⟨(some 4), .op (.mv (.tmp 18)), none⟩]) (.kill [1, 18]))
  .ret))))
theorem cf_laws_markInt64SSS : chkFn Tryz.prog i_laws_markInt64SSS ac_laws_markInt64SSS [.tmp 4] 19 = true := by decide +kernel
def fa_laws_markInt64SSS : FnA := ⟨ac_laws_markInt64SSS, [.tmp 4], 19, true, false, [], .any, none⟩

/-- The checked code of laws markInt64SSSS. -/
def lb_laws_markInt64SSSS_0 : AC := (.seq (.seq (.post (.reg [⟨(some 6), .op (.mv (.tmp 5)), none⟩,
    ⟨(some 7), .op (.mv (.tmp 0)), none⟩,
    ⟨(some 8), .op (.len false (.tmp 7)), none⟩,
    ⟨(some 9), .op (.bin .lss (.tmp 6) (.tmp 8)), none⟩]) (.kill [6, 7, 8]))
  (.cond (.tmp 9) (.ghost (.kill [9]) .skip)
  (.ghost (.kill [0, 5, 9]) (.exit 0))))
  (.seq (.block 1 (.post (.reg [⟨(some 12), .op (.mv (.tmp 0)), none⟩,
    ⟨(some 13), .op (.mv (.tmp 5)), none⟩,
    ⟨(some 14), .op (.iaddrS (.tmp 12) (.tmp 13) 1), none⟩,
    ⟨(some 15), .op (.load 1 false (.tmp 14)), none⟩,
    ⟨(some 16), .op (.mv (.tmp 1)), none⟩,
    ⟨(some 17), .call (.func i_laws_markInt64SSS) [(.tmp 15), (.tmp 16)], none⟩,
    ⟨(some 1), .op (.mv (.tmp 17)), none⟩]) (.kill [12, 13, 14, 15, 16, 17])))
  (.post (.reg [⟨(some 10), .op (.mv (.tmp 5)), none⟩,
    ⟨(some 11), .op (.bin .add (.tmp 10) (.const (Value.int .i64 1))), none⟩,
    ⟨(some 5), .op (.mv (.tmp 11)), none⟩]) (.kill [10, 11]))))
def lo_laws_markInt64SSSS_0 : AC := (.loop lb_laws_markInt64SSSS_0)
def ac_laws_markInt64SSSS : AC := (.seq (.post (.reg [⟨(some 4), .op (.mv (.const (Value.int .i64 0))), none⟩]) (.kill [4]))
  (.seq (.seq (.reg [⟨(some 5), .op (.mv (.const (Value.int .i64 0))), none⟩])
  (.block 0 lo_laws_markInt64SSSS_0))
  (.ghost (.kill [0, 5]) (.seq (.post (.reg [⟨(some 18), .op (.mv (.tmp 1)), none⟩,
    ⟨(some 4), .op (.mv (.tmp 18)), none⟩]) (.kill [1, 18]))
  .ret))))
theorem cf_laws_markInt64SSSS : chkFn Tryz.prog i_laws_markInt64SSSS ac_laws_markInt64SSSS [.tmp 4] 19 = true := by decide +kernel
def fa_laws_markInt64SSSS : FnA := ⟨ac_laws_markInt64SSSS, [.tmp 4], 19, true, false, [], .any, none⟩

/-- The checked code of laws markChoices. -/
def ac_laws_markChoices : AC := (.seq (.post (.reg [⟨(some 2), .op (.box false (.tmp 0)), none⟩,
    ⟨(some 4), .op (.mv (.const (Value.int .i64 0))), none⟩]) (.kill [0, 4]))
  (.seq (.post (.reg [⟨(some 5), .op (.faddr (.tmp 2) 1), none⟩,
    ⟨(some 6), .op (.load 1 false (.tmp 5)), none⟩,
    ⟨(some 7), .op (.mv (.tmp 1)), none⟩,
    ⟨(some 8), .call (.func i_laws_markInt64S) [(.tmp 6), (.tmp 7)], none⟩,
    ⟨(some 1), .op (.mv (.tmp 8)), none⟩]) (.kill [5, 6, 7, 8]))
  (.seq (.post (.reg [⟨(some 9), .op (.faddr (.tmp 2) 2), none⟩,
    ⟨(some 10), .op (.load 1 false (.tmp 9)), none⟩,
    ⟨(some 11), .op (.mv (.tmp 1)), none⟩,
    ⟨(some 12), .call (.func i_laws_markBoolS) [(.tmp 10), (.tmp 11)], none⟩,
    ⟨(some 1), .op (.mv (.tmp 12)), none⟩]) (.kill [9, 10, 11, 12]))
  (.seq (.post (.reg [⟨(some 13), .op (.faddr (.tmp 2) 3), none⟩,
    ⟨(some 14), .op (.load 1 false (.tmp 13)), none⟩,
    ⟨(some 15), .op (.mv (.tmp 1)), none⟩,
    ⟨(some 16), .call (.func i_laws_markPushSSS) [(.tmp 14), (.tmp 15)], none⟩,
    ⟨(some 1), .op (.mv (.tmp 16)), none⟩]) (.kill [13, 14, 15, 16]))
  (.seq (.post (.reg [⟨(some 17), .op (.faddr (.tmp 2) 4), none⟩,
    ⟨(some 18), .op (.load 1 false (.tmp 17)), none⟩,
    ⟨(some 19), .op (.mv (.tmp 1)), none⟩,
    ⟨(some 20), .call (.func i_laws_markInt64SSSS) [(.tmp 18), (.tmp 19)], none⟩,
    ⟨(some 1), .op (.mv (.tmp 20)), none⟩]) (.kill [17, 18, 19, 20]))
  (.seq (.post (.reg [⟨(some 21), .op (.faddr (.tmp 2) 5), none⟩,
    ⟨(some 22), .op (.load 1 false (.tmp 21)), none⟩,
    ⟨(some 23), .op (.mv (.tmp 1)), none⟩,
    ⟨(some 24), .call (.func i_laws_markInt64SSS) [(.tmp 22), (.tmp 23)], none⟩,
    ⟨(some 1), .op (.mv (.tmp 24)), none⟩]) (.kill [2, 21, 22, 23, 24]))
  (.seq (.post (.reg [⟨(some 25), .op (.mv (.tmp 1)), none⟩,
    ⟨(some 4), .op (.mv (.tmp 25)), none⟩]) (.kill [1, 25]))
  .ret)))))))
theorem cf_laws_markChoices : chkFn Tryz.prog i_laws_markChoices ac_laws_markChoices [.tmp 4] 26 = true := by decide +kernel
def fa_laws_markChoices : FnA := ⟨ac_laws_markChoices, [.tmp 4], 26, true, false, [], .any, none⟩

/-- The checked code of laws heldInt64S. -/
def lb_laws_heldInt64S_0 : AC := (.seq (.seq (.post (.reg [⟨(some 6), .op (.mv (.tmp 5)), none⟩,
    ⟨(some 7), .op (.mv (.tmp 0)), none⟩,
    ⟨(some 8), .op (.len false (.tmp 7)), none⟩,
    ⟨(some 9), .op (.bin .lss (.tmp 6) (.tmp 8)), none⟩]) (.kill [6, 7, 8]))
  (.cond (.tmp 9) (.ghost (.kill [9]) .skip)
  (.ghost (.kill [0, 5, 9]) (.exit 0))))
  (.seq (.block 1 (.seq (.seq (.post (.reg [⟨(some 12), .op (.mv (.tmp 0)), none⟩,
    ⟨(some 13), .op (.mv (.tmp 5)), none⟩,
    ⟨(some 14), .op (.iaddrS (.tmp 12) (.tmp 13) 1), none⟩,
    ⟨(some 15), .op (.load 1 false (.tmp 14)), none⟩,
    ⟨(some 16), .op (.mv (.tmp 1)), none⟩,
    ⟨(some 17), .op (.bin .neq (.tmp 15) (.tmp 16)), none⟩]) (.kill [12, 13, 14, 15, 16]))
  (.cond (.tmp 17) (.ghost (.kill [0, 1, 5, 17]) (.seq (.reg [⟨(some 4), .op (.mv (.const (Value.int .i64 (-1)))), none⟩])
  .ret))
  (.ghost (.kill [17]) .skip)))
  (.post (.reg [⟨(some 18), .op (.mv (.tmp 1)), none⟩,
    ⟨(some 19), .op (.bin .add (.tmp 18) (.const (Value.int .i64 1))), none⟩,
    ⟨(some 1), .op (.mv (.tmp 19)), none⟩]) (.kill [18, 19]))))
  (.post (.reg [⟨(some 10), .op (.mv (.tmp 5)), none⟩,
    ⟨(some 11), .op (.bin .add (.tmp 10) (.const (Value.int .i64 1))), none⟩,
    ⟨(some 5), .op (.mv (.tmp 11)), none⟩]) (.kill [10, 11]))))
def lo_laws_heldInt64S_0 : AC := (.loop lb_laws_heldInt64S_0)
def ac_laws_heldInt64S : AC := (.seq (.post (.reg [⟨(some 4), .op (.mv (.const (Value.int .i64 0))), none⟩]) (.kill [4]))
  (.seq (.seq (.reg [⟨(some 5), .op (.mv (.const (Value.int .i64 0))), none⟩])
  (.block 0 lo_laws_heldInt64S_0))
  (.ghost (.kill [0, 5]) (.seq (.post (.reg [⟨(some 20), .op (.mv (.tmp 1)), none⟩,
    ⟨(some 4), .op (.mv (.tmp 20)), none⟩]) (.kill [1, 20]))
  .ret))))
theorem cf_laws_heldInt64S : chkFn Tryz.prog i_laws_heldInt64S ac_laws_heldInt64S [.tmp 4] 21 = true := by decide +kernel
def fa_laws_heldInt64S : FnA := ⟨ac_laws_heldInt64S, [.tmp 4], 21, false, true, [(.lst 1 .any), .any], .any, none⟩

/-- The checked code of laws heldInt64SS. -/
def lb_laws_heldInt64SS_0 : AC := (.seq (.seq (.post (.reg [⟨(some 6), .op (.mv (.tmp 5)), none⟩,
    ⟨(some 7), .op (.mv (.tmp 0)), none⟩,
    ⟨(some 8), .op (.len false (.tmp 7)), none⟩,
    ⟨(some 9), .op (.bin .lss (.tmp 6) (.tmp 8)), none⟩]) (.kill [6, 7, 8]))
  (.cond (.tmp 9) (.ghost (.kill [9]) .skip)
  (.ghost (.kill [0, 5, 9]) (.exit 0))))
  (.seq (.block 1 (.seq (.post (.reg [⟨(some 12), .op (.mv (.tmp 0)), none⟩,
    ⟨(some 13), .op (.mv (.tmp 5)), none⟩,
    ⟨(some 14), .op (.iaddrS (.tmp 12) (.tmp 13) 1), none⟩,
    ⟨(some 15), .op (.load 1 false (.tmp 14)), none⟩,
    ⟨(some 16), .op (.mv (.tmp 1)), none⟩,
    ⟨(some 17), .call (.func i_laws_heldInt64S) [(.tmp 15), (.tmp 16)], none⟩,
    ⟨(some 1), .op (.mv (.tmp 17)), none⟩]) (.kill [12, 13, 14, 15, 16, 17]))
  (.seq (.post (.reg [⟨(some 18), .op (.mv (.tmp 1)), none⟩,
    ⟨(some 19), .op (.bin .lss (.tmp 18) (.const (Value.int .i64 0))), none⟩]) (.kill [18]))
  (.cond (.tmp 19) (.ghost (.kill [0, 1, 5, 19]) (.seq (.reg [⟨(some 4), .op (.mv (.const (Value.int .i64 (-1)))), none⟩])
  .ret))
  (.ghost (.kill [19]) .skip)))))
  (.post (.reg [⟨(some 10), .op (.mv (.tmp 5)), none⟩,
    ⟨(some 11), .op (.bin .add (.tmp 10) (.const (Value.int .i64 1))), none⟩,
    ⟨(some 5), .op (.mv (.tmp 11)), none⟩]) (.kill [10, 11]))))
def lo_laws_heldInt64SS_0 : AC := (.loop lb_laws_heldInt64SS_0)
def ac_laws_heldInt64SS : AC := (.seq (.post (.reg [⟨(some 4), .op (.mv (.const (Value.int .i64 0))), none⟩]) (.kill [4]))
  (.seq (.seq (.reg [⟨(some 5), .op (.mv (.const (Value.int .i64 0))), none⟩])
  (.block 0 lo_laws_heldInt64SS_0))
  (.ghost (.kill [0, 5]) (.seq (.post (.reg [⟨(some 20), .op (.mv (.tmp 1)), none⟩,
    ⟨(some 4), .op (.mv (.tmp 20)), none⟩]) (.kill [1, 20]))
  .ret))))
theorem cf_laws_heldInt64SS : chkFn Tryz.prog i_laws_heldInt64SS ac_laws_heldInt64SS [.tmp 4] 21 = true := by decide +kernel
def fa_laws_heldInt64SS : FnA := ⟨ac_laws_heldInt64SS, [.tmp 4], 21, false, true, [(.lst 1 (.lst 1 .any)), .any], .any, none⟩

/-- The checked code of laws FnExactPairsOf. -/
def ac_laws_FnExactPairsOf : AC := (.seq (.post (.reg [⟨(some 2), .op (.box true (.tmp 0)), none⟩,
    ⟨(some 4), .op (.mv (.const (Value.bool false))), none⟩]) (.kill [0, 4]))
  (.seq (.seq (.post (.reg [⟨(some 16), .op (.mv (.tmp 1)), none⟩,
    ⟨(some 17), .op (.len true (.tmp 16)), none⟩,
    ⟨(some 18), .op (.bin .gtr (.tmp 17) (.const (Value.int .i64 1048576))), none⟩]) (.kill [16, 17]))
  (.cond (.tmp 18) (.ghost (.kill [1, 2, 18]) (.seq (.reg [⟨(some 4), .op (.mv (.const (Value.bool true))), none⟩])
  .ret))
  (.ghost (.kill [18]) .skip)))
  (.seq (.reg [⟨(some 5), .op (.mv (.const (Value.int .i64 1048576))), none⟩])
  (.seq (.post (.reg [⟨(some 19), .op (.load 6 true (.tmp 2)), none⟩,
    ⟨(some 20), .op (.mv (.tmp 5)), none⟩,
    ⟨(some 21), .call (.func i_laws_szChoices) [(.tmp 19), (.tmp 20)], none⟩,
    ⟨(some 5), .op (.mv (.tmp 21)), none⟩]) (.kill [19, 20, 21]))
  (.seq (.seq (.post (.reg [⟨(some 22), .op (.mv (.tmp 5)), none⟩,
    ⟨(some 23), .op (.bin .lss (.tmp 22) (.const (Value.int .i64 0))), none⟩]) (.kill [5, 22]))
  (.cond (.tmp 23) (.ghost (.kill [1, 2, 23]) (.seq (.reg [⟨(some 4), .op (.mv (.const (Value.bool true))), none⟩])
  .ret))
  (.ghost (.kill [23]) .skip)))
  (.seq (.post (.reg [⟨(some 25), .op (.load 6 true (.tmp 2)), none⟩,
    ⟨(some 26), .call (.func i_laws_toChoices) [(.tmp 25)] true, none⟩,
    ⟨(some 27), .op (.mv (.tmp 1)), none⟩,
    ⟨(some 28), .call (.func i_spec_PairsOf) [(.tmp 26), (.tmp 27)], none⟩,
    ⟨(some 24), .op (.mv (.tmp 28)), none⟩,
    ⟨(some 29), .op (.ext (.tmp 24) 0), none⟩,
    ⟨(some 30), .op (.ext (.tmp 24) 1), none⟩,
    ⟨(some 6), .op (.mv (.tmp 29)), none⟩,
    ⟨(some 7), .op (.mv (.tmp 30)), none⟩]) (.kill [24, 25, 26, 27, 28, 29, 30]))
  (.seq (.post (.reg [⟨(some 31), .op (.load 6 true (.tmp 2)), none⟩,
    ⟨(some 32), .call (.func i_laws_toChoices) [(.tmp 31)], none⟩,
    ⟨(some 8), .op (.alloc (Value.agg #[Value.int .i64 0, Value.slice none 0 0, Value.slice none 0 0, Value.slice none 0 0, Value.slice none 0 0, Value.slice none 0 0])), none⟩,
    ⟨none, .op (.store 6 (.tmp 8) (.tmp 32)), none⟩]) (.kill [31, 32]))
  (.seq (.post (.reg [⟨(some 34), .op (.load 6 true (.tmp 8)), none⟩,
    ⟨(some 35), .op (.mv (.tmp 1)), none⟩,
    ⟨(some 36), .call (.func i_impl_PairsOf) [(.tmp 34), (.tmp 35)], none⟩,
    ⟨(some 33), .op (.mv (.tmp 36)), none⟩,
    ⟨(some 37), .op (.ext (.tmp 33) 0), none⟩,
    ⟨(some 38), .op (.ext (.tmp 33) 1), none⟩,
    ⟨(some 9), .op (.mv (.tmp 37)), none⟩,
    ⟨(some 10), .op (.mv (.tmp 38)), none⟩]) (.kill [33, 34, 35, 36, 37, 38]))
  (.seq (.seq (.post (.reg [⟨(some 39), .op (.mv (.tmp 9)), none⟩,
    ⟨(some 40), .op (.mv (.tmp 6)), none⟩,
    ⟨(some 41), .call (.func i_laws_eqInt64SS) [(.tmp 39), (.tmp 40)], none⟩,
    ⟨(some 42), .op (.un .not (.tmp 41)), none⟩,
    ⟨(some 43), .op (.mv (.tmp 42)), none⟩,
    ⟨(some 44), .op (.mv (.tmp 10)), some (43, false)⟩,
    ⟨(some 45), .op (.mv (.tmp 7)), some (43, false)⟩,
    ⟨(some 46), .op (.bin .neq (.tmp 44) (.tmp 45)), some (43, false)⟩,
    ⟨(some 47), .op (.pick (.tmp 43) (.const (Value.bool true)) (.tmp 46)), none⟩]) (.kill [39, 40, 41, 42, 43, 44, 45, 46]))
  (.cond (.tmp 47) (.ghost (.kill [1, 2, 6, 7, 8, 9, 10, 47]) (.seq (.reg [⟨(some 4), .op (.mv (.const (Value.bool false))), none⟩])
  .ret))
  (.ghost (.kill [47]) .skip)))
  (.seq (.seq (.post (.draw [⟨0, ⟨(some 48), .op (.load 6 true (.tmp 8)), none⟩, []⟩,
    ⟨1, ⟨(some 49), .op (.load 6 true (.tmp 2)), none⟩, []⟩,
    ⟨2, ⟨(some 50), .call (.func i_laws_toChoices) [(.tmp 49)], none⟩, [0]⟩,
    ⟨3, ⟨(some 51), .call (.func i_laws_eqChoices) [(.tmp 48), (.tmp 50)], none⟩, []⟩,
    ⟨4, ⟨(some 52), .op (.un .not (.tmp 51)), none⟩, []⟩]
    [0, 0, 2, 7, 15]) (.kill [48, 49, 50, 51]))
  (.cond (.tmp 52) (.ghost (.kill [1, 2, 6, 7, 8, 9, 10, 52]) (.seq (.reg [⟨(some 4), .op (.mv (.const (Value.bool false))), none⟩])
  .ret))
  (.ghost (.kill [52]) .skip)))
  (.seq (.reg [⟨(some 11), .op (.mv (.const (Value.int .i64 1))), none⟩])
  (.seq (.post (.reg [⟨(some 53), .op (.load 6 true (.tmp 8)), none⟩,
    ⟨(some 54), .op (.mv (.tmp 11)), none⟩,
    ⟨(some 55), .call (.func i_laws_markChoices) [(.tmp 53), (.tmp 54)], none⟩,
    ⟨(some 11), .op (.mv (.tmp 55)), none⟩]) (.kill [8, 53, 54, 55]))
  (.seq (.seq (.post (.reg [⟨(some 56), .op (.mv (.tmp 11)), none⟩,
    ⟨(some 57), .op (.bin .lss (.tmp 56) (.const (Value.int .i64 0))), none⟩,
    ⟨(some 58), .op (.mv (.tmp 57)), none⟩,
    ⟨(some 59), .op (.mv (.tmp 9)), some (58, false)⟩,
    ⟨(some 60), .op (.mv (.tmp 6)), some (58, false)⟩,
    ⟨(some 61), .call (.func i_laws_eqInt64SS) [(.tmp 59), (.tmp 60)], some (58, false)⟩,
    ⟨(some 62), .op (.un .not (.tmp 61)), some (58, false)⟩,
    ⟨(some 63), .op (.pick (.tmp 58) (.const (Value.bool true)) (.tmp 62)), none⟩,
    ⟨(some 64), .op (.mv (.tmp 63)), none⟩,
    ⟨(some 65), .op (.mv (.tmp 10)), some (64, false)⟩,
    ⟨(some 66), .op (.mv (.tmp 7)), some (64, false)⟩,
    ⟨(some 67), .op (.bin .neq (.tmp 65) (.tmp 66)), some (64, false)⟩,
    ⟨(some 68), .op (.pick (.tmp 64) (.const (Value.bool true)) (.tmp 67)), none⟩]) (.kill [10, 11, 56, 57, 58, 59, 60, 61, 62, 63, 64, 65, 66, 67]))
  (.cond (.tmp 68) (.ghost (.kill [1, 2, 6, 7, 9, 68]) (.seq (.reg [⟨(some 4), .op (.mv (.const (Value.bool false))), none⟩])
  .ret))
  (.ghost (.kill [68]) .skip)))
  (.seq (.reg [⟨(some 12), .op (.mv (.const (Value.int .i64 1))), none⟩])
  (.seq (.post (.reg [⟨(some 69), .op (.mv (.tmp 9)), none⟩,
    ⟨(some 70), .op (.mv (.tmp 12)), none⟩,
    ⟨(some 71), .call (.func i_laws_markInt64SS) [(.tmp 69), (.tmp 70)], none⟩,
    ⟨(some 12), .op (.mv (.tmp 71)), none⟩]) (.kill [69, 70, 71]))
  (.seq (.reg [⟨(some 13), .op (.mv (.const (Value.int .i64 1))), none⟩])
  (.seq (.post (.reg [⟨(some 72), .op (.mv (.tmp 9)), none⟩,
    ⟨(some 73), .op (.mv (.tmp 13)), none⟩,
    ⟨(some 74), .call (.func i_laws_heldInt64SS) [(.tmp 72), (.tmp 73)], none⟩,
    ⟨(some 13), .op (.mv (.tmp 74)), none⟩]) (.kill [72, 73, 74]))
  (.seq (.seq (.post (.reg [⟨(some 75), .op (.mv (.tmp 13)), none⟩,
    ⟨(some 76), .op (.bin .lss (.tmp 75) (.const (Value.int .i64 0))), none⟩]) (.kill [75]))
  (.cond (.tmp 76) (.ghost (.kill [1, 2, 6, 7, 9, 12, 13, 76]) (.seq (.reg [⟨(some 4), .op (.mv (.const (Value.bool false))), none⟩])
  .ret))
  (.ghost (.kill [76]) .skip)))
  (.seq (.seq (.post (.reg [⟨(some 77), .op (.mv (.tmp 13)), none⟩,
    ⟨(some 78), .op (.mv (.tmp 12)), none⟩,
    ⟨(some 79), .op (.bin .neq (.tmp 77) (.tmp 78)), none⟩]) (.kill [13, 77, 78]))
  (.cond (.tmp 79) (.ghost (.kill [1, 2, 6, 7, 9, 12, 79]) (.seq (.reg [⟨(some 4), .op (.mv (.const (Value.bool false))), none⟩])
  .ret))
  (.ghost (.kill [79]) .skip)))
  (.seq (.post (.reg [⟨(some 81), .op (.load 6 true (.tmp 2)), none⟩,
    ⟨(some 82), .call (.func i_laws_toChoices) [(.tmp 81)], none⟩,
    ⟨(some 83), .op (.mv (.tmp 1)), none⟩,
    ⟨(some 84), .call (.func i_impl_PairsOf) [(.tmp 82), (.tmp 83)], none⟩,
    ⟨(some 80), .op (.mv (.tmp 84)), none⟩,
    ⟨(some 85), .op (.ext (.tmp 80) 0), none⟩,
    ⟨(some 86), .op (.ext (.tmp 80) 1), none⟩,
    ⟨(some 14), .op (.mv (.tmp 85)), none⟩,
    ⟨(some 15), .op (.mv (.tmp 86)), none⟩]) (.kill [1, 2, 80, 81, 82, 83, 84, 85, 86]))
  (.seq (.seq (.post (.reg [⟨(some 87), .op (.mv (.tmp 14)), none⟩,
    ⟨(some 88), .op (.mv (.tmp 6)), none⟩,
    ⟨(some 89), .call (.func i_laws_eqInt64SS) [(.tmp 87), (.tmp 88)], none⟩,
    ⟨(some 90), .op (.un .not (.tmp 89)), none⟩,
    ⟨(some 91), .op (.mv (.tmp 90)), none⟩,
    ⟨(some 92), .op (.mv (.tmp 15)), some (91, false)⟩,
    ⟨(some 93), .op (.mv (.tmp 7)), some (91, false)⟩,
    ⟨(some 94), .op (.bin .neq (.tmp 92) (.tmp 93)), some (91, false)⟩,
    ⟨(some 95), .op (.pick (.tmp 91) (.const (Value.bool true)) (.tmp 94)), none⟩]) (.kill [6, 7, 14, 15, 87, 88, 89, 90, 91, 92, 93, 94]))
  (.cond (.tmp 95) (.ghost (.kill [9, 12, 95]) (.seq (.reg [⟨(some 4), .op (.mv (.const (Value.bool false))), none⟩])
  .ret))
  (.ghost (.kill [95]) .skip)))
  (.seq (.reg [⟨(some 13), .op (.mv (.const (Value.int .i64 1))), none⟩])
  (.seq (.post (.reg [⟨(some 96), .op (.mv (.tmp 9)), none⟩,
    ⟨(some 97), .op (.mv (.tmp 13)), none⟩,
    ⟨(some 98), .call (.func i_laws_heldInt64SS) [(.tmp 96), (.tmp 97)], none⟩,
    ⟨(some 13), .op (.mv (.tmp 98)), none⟩]) (.kill [9, 96, 97, 98]))
  (.seq (.seq (.post (.reg [⟨(some 99), .op (.mv (.tmp 13)), none⟩,
    ⟨(some 100), .op (.bin .lss (.tmp 99) (.const (Value.int .i64 0))), none⟩]) (.kill [99]))
  (.cond (.tmp 100) (.ghost (.kill [12, 13, 100]) (.seq (.reg [⟨(some 4), .op (.mv (.const (Value.bool false))), none⟩])
  .ret))
  (.ghost (.kill [100]) .skip)))
  (.seq (.seq (.post (.reg [⟨(some 101), .op (.mv (.tmp 13)), none⟩,
    ⟨(some 102), .op (.mv (.tmp 12)), none⟩,
    ⟨(some 103), .op (.bin .neq (.tmp 101) (.tmp 102)), none⟩]) (.kill [12, 13, 101, 102]))
  (.cond (.tmp 103) (.ghost (.kill [103]) (.seq (.reg [⟨(some 4), .op (.mv (.const (Value.bool false))), none⟩])
  .ret))
  (.ghost (.kill [103]) .skip)))
  (.seq (.reg [⟨(some 4), .op (.mv (.const (Value.bool true))), none⟩])
  .ret))))))))))))))))))))))))))
theorem cf_laws_FnExactPairsOf : chkFn Tryz.prog i_laws_FnExactPairsOf ac_laws_FnExactPairsOf [.tmp 4] 104 = true := by decide +kernel
def fa_laws_FnExactPairsOf : FnA := ⟨ac_laws_FnExactPairsOf, [.tmp 4], 104, false, true, [], .any, none⟩

end Go.Proofs.YtipmgemnjcjobaaGreat
