/- The code of the functions, checked against the loaded program; printed by a program (gen2.py). -/
import Derived.Test.YtegjfjckijmgcaaProg
import Derived.Test.YtegjfjckijmgcaaAw25
import Derived.Test.YtegjfjckijmgcaaG0
set_option linter.unusedVariables false
set_option maxRecDepth 100000
namespace Go.Proofs.Ytegjfjckijmgcaa
open Aw

/-- The checked code of impl bits. -/
def lb_impl_bits_0 : AC := (.seq (.reg [⟨(some 9), .op (.bin .lss (.tmp 8) (.tmp 7)), none⟩])
  (.seq (.cond (.tmp 9) (.ghost (.kill [9]) .skip)
  (.ghost (.kill [6, 7, 8, 9]) (.exit 0)))
  (.seq (.block 1 (.seq (.post (.reg [⟨(some 10), .op (.iaddrS (.tmp 6) (.tmp 8) 1), none⟩,
    ⟨(some 11), .op (.load 1 false (.tmp 10)), none⟩,
    ⟨(some 5), .op (.mv (.tmp 11)), none⟩]) (.kill [10, 11]))
  (.post (.reg [⟨(some 12), .op (.mv (.tmp 3)), none⟩,
    ⟨(some 13), .op (.mv (.tmp 5)), none⟩,
    ⟨(some 14), .op (.bin .shl (.const (Value.int .u64 1)) (.tmp 13)), none⟩,
    ⟨(some 15), .op (.bin .or (.tmp 12) (.tmp 14)), none⟩,
    ⟨(some 3), .op (.mv (.tmp 15)), none⟩]) (.kill [5, 12, 13, 14, 15]))))
  (.post (.reg [⟨(some 16), .op (.bin .add (.tmp 8) (.const (Value.int .i64 1))), none⟩,
    ⟨(some 8), .op (.mv (.tmp 16)), none⟩]) (.kill [16])))))
def lo_impl_bits_0 : AC := (.loop lb_impl_bits_0)
def ac_impl_bits : AC := (.seq (.post (.reg [⟨(some 2), .op (.mv (.const (Value.int .u64 0))), none⟩]) (.kill [2]))
  (.seq (.reg [⟨(some 3), .op (.mv (.const (Value.int .u64 0))), none⟩])
  (.seq (.seq (.post (.reg [⟨(some 6), .op (.mv (.tmp 0)), none⟩,
    ⟨(some 7), .op (.len false (.tmp 6)), none⟩,
    ⟨(some 8), .op (.mv (.const (Value.int .i64 0))), none⟩]) (.kill [0]))
  (.block 0 lo_impl_bits_0))
  (.ghost (.kill [6, 7, 8]) (.seq (.post (.reg [⟨(some 17), .op (.mv (.tmp 3)), none⟩,
    ⟨(some 2), .op (.mv (.tmp 17)), none⟩]) (.kill [3, 17]))
  .ret)))))
theorem cf_impl_bits : chkFn Try.prog i_impl_bits ac_impl_bits [.tmp 2] 18 = true := by decide +kernel
def fa_impl_bits : FnA := ⟨ac_impl_bits, [.tmp 2], 18, false, true, [], .any, none⟩

/-- The checked code of impl Choices  start. -/
def ac_impl_Choices_start : AC := (.seq (.post (.reg [⟨(some 1), .op (.box true (.tmp 0)), none⟩,
    ⟨(some 2), .op (.alloc (Value.agg #[Value.int .u64 0, Value.int .u64 0, Value.int .u64 0, Value.int .u64 0, Value.int .u64 0, Value.int .u64 0])), none⟩]) (.kill [0]))
  (.seq (.post (.draw [⟨0, ⟨(some 3), .op (.load 6 true (.tmp 1)), none⟩, []⟩,
    ⟨2, ⟨(some 5), .op (.faddr (.tmp 1) 1), none⟩, []⟩,
    ⟨3, ⟨(some 6), .op (.load 1 false (.tmp 5)), none⟩, []⟩,
    ⟨1, ⟨(some 4), .call (.func i_impl_Choices_same) [(.tmp 3)], none⟩, [3]⟩,
    ⟨4, ⟨(some 7), .call (.func i_impl_bits) [(.tmp 6)], none⟩, []⟩,
    ⟨5, ⟨(some 8), .op (.build [Value.int .u64 0, Value.int .u64 0, Value.int .u64 0, Value.int .u64 0, Value.int .u64 0, Value.int .u64 0] [(0, 5, (.tmp 4)), (5, 1, (.tmp 7))]), none⟩, []⟩,
    ⟨6, ⟨none, .op (.store 6 (.tmp 2) (.tmp 8)), none⟩, []⟩]
    [0, 1, 0, 4, 15, 31, 63]) (.kill [1, 3, 4, 5, 6, 7, 8]))
  .ret))
theorem cf_impl_Choices_start : chkFn Try.prog i_impl_Choices_start ac_impl_Choices_start [.cell 2 6 true] 9 = true := by decide +kernel
def fa_impl_Choices_start : FnA := ⟨ac_impl_Choices_start, [.cell 2 6 true], 9, false, true, [], .any, none⟩

/-- The checked code of impl kindOf. -/
def ac_impl_kindOf : AC := (.seq (.post (.reg [⟨(some 2), .op (.mv (.const (Value.int .i64 0))), none⟩]) (.kill [2]))
  (.seq (.post (.reg [⟨(some 3), .op (.mv (.tmp 0)), none⟩,
    ⟨(some 4), .call (.func i_strings_IndexByte) [(.const (Value.string ⟨#[40, 91, 41, 93, 97, 98]⟩)), (.tmp 3)], none⟩,
    ⟨(some 5), .op (.bin .rem (.tmp 4) (.const (Value.int .i64 2))), none⟩,
    ⟨(some 2), .op (.mv (.tmp 5)), none⟩]) (.kill [0, 3, 4, 5]))
  .ret))
theorem cf_impl_kindOf : chkFn Try.prog i_impl_kindOf ac_impl_kindOf [.tmp 2] 6 = true := by decide +kernel
def fa_impl_kindOf : FnA := ⟨ac_impl_kindOf, [.tmp 2], 6, false, true, [], .any, none⟩

/-- The checked code of impl all. -/
def lb_impl_all_0 : AC := (.seq (.reg [⟨(some 12), .op (.bin .lss (.tmp 11) (.tmp 10)), none⟩])
  (.seq (.cond (.tmp 12) (.ghost (.kill [12]) .skip)
  (.ghost (.kill [1, 9, 10, 11, 12]) (.exit 0)))
  (.seq (.block 1 (.seq (.post (.reg [⟨(some 13), .op (.iaddrS (.tmp 9) (.tmp 11) 1), none⟩,
    ⟨(some 14), .op (.load 1 false (.tmp 13)), none⟩,
    ⟨(some 7), .op (.mv (.tmp 14)), none⟩]) (.kill [13, 14]))
  (.post (.reg [⟨(some 15), .op (.mv (.tmp 5)), none⟩,
    ⟨(some 16), .op (.mv (.tmp 1)), none⟩,
    ⟨(some 17), .op (.mv (.tmp 7)), none⟩,
    ⟨(some 18), .call (.tmp 16) [(.tmp 17)], none⟩,
    ⟨(some 19), .op (.bin .or (.tmp 15) (.tmp 18)), none⟩,
    ⟨(some 5), .op (.mv (.tmp 19)), none⟩]) (.kill [7, 15, 16, 17, 18, 19]))))
  (.post (.reg [⟨(some 20), .op (.bin .add (.tmp 11) (.const (Value.int .i64 1))), none⟩,
    ⟨(some 11), .op (.mv (.tmp 20)), none⟩]) (.kill [20])))))
def lo_impl_all_0 : AC := (.loop lb_impl_all_0)
def ac_impl_all : AC := (.seq (.post (.reg [⟨(some 4), .op (.mv (.const (Value.int .u64 0))), none⟩]) (.kill [4]))
  (.seq (.reg [⟨(some 5), .op (.mv (.const (Value.int .u64 0))), none⟩])
  (.seq (.seq (.post (.reg [⟨(some 8), .op (.mv (.tmp 0)), none⟩,
    ⟨(some 9), .call (.func i_impl_states) [(.tmp 8)], none⟩,
    ⟨(some 10), .op (.len false (.tmp 9)), none⟩,
    ⟨(some 11), .op (.mv (.const (Value.int .i64 0))), none⟩]) (.kill [0, 8]))
  (.block 0 lo_impl_all_0))
  (.ghost (.kill [1, 9, 10, 11]) (.seq (.post (.reg [⟨(some 21), .op (.mv (.tmp 5)), none⟩,
    ⟨(some 4), .op (.mv (.tmp 21)), none⟩]) (.kill [5, 21]))
  .ret)))))
theorem cf_impl_all : chkFn Try.prog i_impl_all ac_impl_all [.tmp 4] 22 = true := by decide +kernel
def fa_impl_all : FnA := ⟨ac_impl_all, [.tmp 4], 22, false, true, [], .any, none⟩

/-- The checked code of impl Choices  call 1. -/
def lb_impl_Choices_call_1_0 : AC := (.post (.seq (.reg [⟨(some 18), .op (.bin .lss (.tmp 17) (.tmp 16)), none⟩])
  (.seq (.cond (.tmp 18) (.ghost (.kill [18]) .skip)
  (.ghost (.kill [15, 16, 17, 18]) (.exit 0)))
  (.seq (.block 1 (.seq (.post (.reg [⟨(some 19), .op (.iaddrS (.tmp 15) (.tmp 17) 2), none⟩,
    ⟨(some 20), .op (.load 2 true (.tmp 19)), none⟩,
    ⟨(some 7), .op (.alloc (Value.agg #[Value.int .i64 0, Value.int .i64 0])), none⟩,
    ⟨none, .op (.store 2 (.tmp 7) (.tmp 20)), none⟩]) (.kill [19, 20]))
  (.post (.reg [⟨(some 21), .op (.mv (.tmp 5)), none⟩,
    ⟨(some 22), .op (.faddr (.tmp 7) 0), none⟩,
    ⟨(some 23), .op (.load 1 false (.tmp 22)), none⟩,
    ⟨(some 24), .op (.bin .shl (.const (Value.int .u64 1)) (.tmp 23)), none⟩,
    ⟨(some 25), .op (.bin .or (.tmp 21) (.tmp 24)), none⟩,
    ⟨(some 5), .op (.mv (.tmp 25)), none⟩]) (.kill [7, 21, 22, 23, 24, 25]))))
  (.post (.reg [⟨(some 26), .op (.bin .add (.tmp 17) (.const (Value.int .i64 1))), none⟩,
    ⟨(some 17), .op (.mv (.tmp 26)), none⟩]) (.kill [26]))))) .nv)
def lo_impl_Choices_call_1_0 : AC := (.loop lb_impl_Choices_call_1_0)
def ac_impl_Choices_call_1 : AC := (.seq (.post (.reg [⟨(some 4), .op (.mv (.const (Value.int .u64 0))), none⟩]) (.kill [4]))
  (.seq (.reg [⟨(some 5), .op (.mv (.const (Value.int .u64 0))), none⟩])
  (.seq (.seq (.post (.draw [⟨0, ⟨(some 8), .op (.faddr (.tmp 1) 3), none⟩, []⟩,
    ⟨1, ⟨(some 9), .op (.load 1 false (.tmp 8)), none⟩, []⟩,
    ⟨2, ⟨(some 10), .op (.mv (.tmp 0)), none⟩, []⟩,
    ⟨3, ⟨(some 11), .op (.iaddrS (.tmp 9) (.tmp 10) 1), none⟩, []⟩,
    ⟨4, ⟨(some 12), .op (.load 1 false (.tmp 11)), none⟩, []⟩,
    ⟨5, ⟨(some 13), .op (.load 1 false (.tmp 2)), none⟩, []⟩,
    ⟨6, ⟨(some 14), .op (.iaddrS (.tmp 12) (.tmp 13) 1), none⟩, []⟩,
    ⟨7, ⟨(some 15), .op (.load 1 false (.tmp 14)), none⟩, []⟩,
    ⟨8, ⟨(some 16), .op (.len false (.tmp 15)), none⟩, []⟩,
    ⟨9, ⟨(some 17), .op (.mv (.const (Value.int .i64 0))), none⟩, []⟩]
    [0, 1, 0, 7, 15, 0, 63, 127, 255, 0]) (.kill [0, 1, 2, 8, 9, 10, 11, 12, 13, 14]))
  (.post (.block 0 (.ghost .nv lo_impl_Choices_call_1_0)) .nv))
  (.ghost (.kill [15, 16, 17]) (.seq (.post (.reg [⟨(some 27), .op (.mv (.tmp 5)), none⟩,
    ⟨(some 4), .op (.mv (.tmp 27)), none⟩]) (.kill [5, 27]))
  .ret)))))
theorem cf_impl_Choices_call_1 : chkFn Try.prog i_impl_Choices_call_1 ac_impl_Choices_call_1 [.tmp 4] 28 = true := by decide +kernel
def fa_impl_Choices_call_1 : FnA := ⟨ac_impl_Choices_call_1, [.tmp 4], 28, false, true, [], .any, none⟩

/-- The checked code of impl Choices  call. -/
def ac_impl_Choices_call : AC := (.seq (.post (.reg [⟨(some 3), .op (.box true (.tmp 0)), none⟩,
    ⟨(some 4), .op (.box true (.tmp 1)), none⟩,
    ⟨(some 5), .op (.box true (.tmp 2)), none⟩,
    ⟨(some 6), .op (.alloc (Value.agg #[Value.int .u64 0, Value.int .u64 0, Value.int .u64 0, Value.int .u64 0, Value.int .u64 0, Value.int .u64 0])), none⟩]) (.kill [0, 1, 2]))
  (.seq (.post (.draw [⟨0, ⟨(some 7), .op (.load 6 true (.tmp 3)), none⟩, []⟩,
    ⟨2, ⟨(some 9), .op (.faddr (.tmp 4) 5), none⟩, []⟩,
    ⟨3, ⟨(some 10), .op (.load 1 false (.tmp 9)), none⟩, []⟩,
    ⟨4, ⟨(some 11), .op (.mkfn i_impl_Choices_call_1 [(.tmp 3), (.tmp 5)]), none⟩, []⟩,
    ⟨1, ⟨(some 8), .call (.func i_impl_Choices_same) [(.tmp 7)], none⟩, [3]⟩,
    ⟨5, ⟨(some 12), .call (.func i_impl_all) [(.tmp 10), (.tmp 11)], none⟩, []⟩,
    ⟨6, ⟨(some 13), .op (.build [Value.int .u64 0, Value.int .u64 0, Value.int .u64 0, Value.int .u64 0, Value.int .u64 0, Value.int .u64 0] [(0, 5, (.tmp 8)), (5, 1, (.tmp 12))]), none⟩, []⟩,
    ⟨7, ⟨none, .op (.store 6 (.tmp 6) (.tmp 13)), none⟩, []⟩]
    [0, 1, 0, 4, 0, 31, 63, 127]) (.kill [3, 4, 5, 7, 8, 9, 10, 11, 12, 13]))
  .ret))
theorem cf_impl_Choices_call : chkFn Try.prog i_impl_Choices_call ac_impl_Choices_call [.cell 6 6 true] 14 = true := by decide +kernel
def fa_impl_Choices_call : FnA := ⟨ac_impl_Choices_call, [.cell 6 6 true], 14, false, true, [], .any, none⟩

/-- The checked code of impl Choices  inner 1. -/
def ac_impl_Choices_inner_1 : AC := (.seq (.post (.reg [⟨(some 4), .op (.mv (.const (Value.int .u64 0))), none⟩]) (.kill [4]))
  (.seq (.post (.draw [⟨0, ⟨(some 5), .op (.faddr (.tmp 1) 5), none⟩, []⟩,
    ⟨1, ⟨(some 6), .op (.load 1 false (.tmp 5)), none⟩, []⟩,
    ⟨2, ⟨(some 7), .op (.mv (.tmp 0)), none⟩, []⟩,
    ⟨3, ⟨(some 8), .op (.iaddrS (.tmp 6) (.tmp 7) 1), none⟩, []⟩,
    ⟨4, ⟨(some 9), .op (.load 1 false (.tmp 8)), none⟩, []⟩,
    ⟨5, ⟨(some 10), .op (.load 1 false (.tmp 2)), none⟩, []⟩,
    ⟨6, ⟨(some 11), .op (.iaddrS (.tmp 9) (.tmp 10) 1), none⟩, []⟩,
    ⟨7, ⟨(some 12), .op (.load 1 false (.tmp 11)), none⟩, []⟩,
    ⟨8, ⟨(some 13), .call (.func i_impl_bits) [(.tmp 12)], none⟩, []⟩,
    ⟨9, ⟨(some 4), .op (.mv (.tmp 13)), none⟩, []⟩]
    [0, 1, 0, 7, 15, 0, 63, 127, 255, 511]) (.kill [0, 1, 2, 5, 6, 7, 8, 9, 10, 11, 12, 13]))
  .ret))
theorem cf_impl_Choices_inner_1 : chkFn Try.prog i_impl_Choices_inner_1 ac_impl_Choices_inner_1 [.tmp 4] 14 = true := by decide +kernel
def fa_impl_Choices_inner_1 : FnA := ⟨ac_impl_Choices_inner_1, [.tmp 4], 14, false, true, [], .any, none⟩

/-- The checked code of impl Choices  inner. -/
def lb_impl_Choices_inner_0 : AC := (.post (.seq (.reg [⟨(some 14), .op (.bin .lss (.tmp 13) (.const (Value.int .i64 5))), none⟩])
  (.seq (.cond (.tmp 14) (.ghost (.kill [14]) .skip)
  (.ghost (.kill [12, 13, 14]) (.exit 0)))
  (.seq (.block 1 (.seq (.post (.reg [⟨(some 15), .op (.mv (.tmp 13)), none⟩,
    ⟨(some 16), .op (.idxArr (.tmp 12) (.tmp 13) 5 1 false), none⟩,
    ⟨(some 8), .op (.mv (.tmp 15)), none⟩,
    ⟨(some 9), .op (.mv (.tmp 16)), none⟩]) (.kill [15, 16]))
  (.post (.reg [⟨(some 17), .op (.mv (.tmp 8)), none⟩,
    ⟨(some 18), .op (.mv (.tmp 9)), none⟩,
    ⟨(some 19), .op (.mv (.tmp 7)), none⟩,
    ⟨(some 20), .call (.func i_impl_all) [(.tmp 18), (.tmp 19)], none⟩,
    ⟨(some 21), .op (.faddr (.tmp 4) 0), none⟩,
    ⟨(some 22), .op (.iaddrA (.tmp 21) (.tmp 17) 5 1), none⟩,
    ⟨none, .op (.store 1 (.tmp 22) (.tmp 20)), none⟩]) (.kill [8, 9, 17, 18, 19, 20, 21, 22]))))
  (.post (.reg [⟨(some 23), .op (.bin .add (.tmp 13) (.const (Value.int .i64 1))), none⟩,
    ⟨(some 13), .op (.mv (.tmp 23)), none⟩]) (.kill [23]))))) .nv)
def lo_impl_Choices_inner_0 : AC := (.loop lb_impl_Choices_inner_0)
def ac_impl_Choices_inner : AC := (.seq (.post (.reg [⟨(some 3), .op (.box true (.tmp 0)), none⟩,
    ⟨(some 4), .op (.box false (.tmp 1)), none⟩,
    ⟨(some 5), .op (.box true (.tmp 2)), none⟩,
    ⟨(some 6), .op (.alloc (Value.agg #[Value.int .u64 0, Value.int .u64 0, Value.int .u64 0, Value.int .u64 0, Value.int .u64 0, Value.int .u64 0])), none⟩]) (.kill [0, 1, 2]))
  (.seq (.post (.reg [⟨(some 10), .op (.mkfn i_impl_Choices_inner_1 [(.tmp 3), (.tmp 5)]), none⟩,
    ⟨(some 7), .op (.mv (.tmp 10)), none⟩]) (.kill [3, 5, 10]))
  (.seq (.seq (.post (.reg [⟨(some 11), .op (.faddr (.tmp 4) 0), none⟩,
    ⟨(some 12), .op (.load 5 true (.tmp 11)), none⟩,
    ⟨(some 13), .op (.mv (.const (Value.int .i64 0))), none⟩]) (.kill [11]))
  (.post (.block 0 (.ghost .nv lo_impl_Choices_inner_0)) .nv))
  (.ghost (.kill [12, 13]) (.seq (.post (.reg [⟨(some 24), .op (.faddr (.tmp 4) 5), none⟩,
    ⟨(some 25), .op (.load 1 false (.tmp 24)), none⟩,
    ⟨(some 26), .op (.mv (.tmp 7)), none⟩,
    ⟨(some 27), .call (.func i_impl_all) [(.tmp 25), (.tmp 26)], none⟩,
    ⟨(some 28), .op (.faddr (.tmp 4) 5), none⟩,
    ⟨none, .op (.store 1 (.tmp 28) (.tmp 27)), none⟩]) (.kill [7, 24, 25, 26, 27, 28]))
  (.seq (.post (.reg [⟨(some 29), .op (.load 6 true (.tmp 4)), none⟩,
    ⟨none, .op (.store 6 (.tmp 6) (.tmp 29)), none⟩]) (.kill [4, 29]))
  .ret))))))
theorem cf_impl_Choices_inner : chkFn Try.prog i_impl_Choices_inner ac_impl_Choices_inner [.cell 6 6 true] 30 = true := by decide +kernel
def fa_impl_Choices_inner : FnA := ⟨ac_impl_Choices_inner, [.cell 6 6 true], 30, false, true, [], .any, none⟩

/-- The checked code of impl Choices  free 1. -/
def ac_impl_Choices_free_1 : AC := (.seq (.post (.reg [⟨(some 4), .op (.mv (.const (Value.int .u64 0))), none⟩]) (.kill [4]))
  (.seq (.post (.draw [⟨0, ⟨(some 5), .op (.faddr (.tmp 1) 4), none⟩, []⟩,
    ⟨1, ⟨(some 6), .op (.load 1 false (.tmp 5)), none⟩, []⟩,
    ⟨2, ⟨(some 7), .op (.mv (.tmp 0)), none⟩, []⟩,
    ⟨3, ⟨(some 8), .op (.iaddrS (.tmp 6) (.tmp 7) 1), none⟩, []⟩,
    ⟨4, ⟨(some 9), .op (.load 1 false (.tmp 8)), none⟩, []⟩,
    ⟨5, ⟨(some 10), .op (.load 1 false (.tmp 2)), none⟩, []⟩,
    ⟨6, ⟨(some 11), .op (.iaddrS (.tmp 9) (.tmp 10) 1), none⟩, []⟩,
    ⟨7, ⟨(some 12), .op (.load 1 false (.tmp 11)), none⟩, []⟩,
    ⟨8, ⟨(some 13), .op (.faddr (.tmp 1) 0), none⟩, []⟩,
    ⟨9, ⟨(some 14), .op (.load 1 false (.tmp 13)), none⟩, []⟩,
    ⟨10, ⟨(some 15), .op (.iaddrS (.tmp 12) (.tmp 14) 1), none⟩, []⟩,
    ⟨11, ⟨(some 16), .op (.load 1 false (.tmp 15)), none⟩, []⟩,
    ⟨12, ⟨(some 17), .call (.func i_impl_bits) [(.tmp 16)], none⟩, []⟩,
    ⟨13, ⟨(some 4), .op (.mv (.tmp 17)), none⟩, []⟩]
    [0, 1, 0, 7, 15, 0, 63, 127, 0, 256, 1023, 2047, 4095, 8191]) (.kill [0, 1, 2, 5, 6, 7, 8, 9, 10, 11, 12, 13, 14, 15, 16, 17]))
  .ret))
theorem cf_impl_Choices_free_1 : chkFn Try.prog i_impl_Choices_free_1 ac_impl_Choices_free_1 [.tmp 4] 18 = true := by decide +kernel
def fa_impl_Choices_free_1 : FnA := ⟨ac_impl_Choices_free_1, [.tmp 4], 18, false, true, [], .any, none⟩

/-- The checked code of impl Choices  free. -/
def ac_impl_Choices_free : AC := (.seq (.post (.reg [⟨(some 3), .op (.box true (.tmp 0)), none⟩,
    ⟨(some 4), .op (.box true (.tmp 1)), none⟩,
    ⟨(some 5), .op (.box true (.tmp 2)), none⟩,
    ⟨(some 6), .op (.alloc (Value.agg #[Value.int .u64 0, Value.int .u64 0, Value.int .u64 0, Value.int .u64 0, Value.int .u64 0, Value.int .u64 0])), none⟩]) (.kill [0, 1, 2]))
  (.seq (.post (.draw [⟨0, ⟨(some 7), .op (.load 6 true (.tmp 3)), none⟩, []⟩,
    ⟨2, ⟨(some 9), .op (.faddr (.tmp 4) 5), none⟩, []⟩,
    ⟨3, ⟨(some 10), .op (.load 1 false (.tmp 9)), none⟩, []⟩,
    ⟨4, ⟨(some 11), .op (.mkfn i_impl_Choices_free_1 [(.tmp 3), (.tmp 5)]), none⟩, []⟩,
    ⟨1, ⟨(some 8), .call (.func i_impl_Choices_same) [(.tmp 7)], none⟩, [3]⟩,
    ⟨5, ⟨(some 12), .call (.func i_impl_all) [(.tmp 10), (.tmp 11)], none⟩, []⟩,
    ⟨6, ⟨(some 13), .op (.build [Value.int .u64 0, Value.int .u64 0, Value.int .u64 0, Value.int .u64 0, Value.int .u64 0, Value.int .u64 0] [(0, 5, (.tmp 8)), (5, 1, (.tmp 12))]), none⟩, []⟩,
    ⟨7, ⟨none, .op (.store 6 (.tmp 6) (.tmp 13)), none⟩, []⟩]
    [0, 1, 0, 4, 0, 31, 63, 127]) (.kill [3, 4, 5, 7, 8, 9, 10, 11, 12, 13]))
  .ret))
theorem cf_impl_Choices_free : chkFn Try.prog i_impl_Choices_free ac_impl_Choices_free [.cell 6 6 true] 14 = true := by decide +kernel
def fa_impl_Choices_free : FnA := ⟨ac_impl_Choices_free, [.cell 6 6 true], 14, false, true, [], .any, none⟩

/-- The checked code of impl Choices  back 1 1. -/
def ac_impl_Choices_back_1_1 : AC := (.seq (.post (.reg [⟨(some 5), .op (.mv (.const (Value.int .u64 0))), none⟩]) (.kill [5]))
  (.seq (.post (.draw [⟨0, ⟨(some 6), .op (.faddr (.tmp 1) 4), none⟩, []⟩,
    ⟨1, ⟨(some 7), .op (.load 1 false (.tmp 6)), none⟩, []⟩,
    ⟨2, ⟨(some 8), .op (.mv (.tmp 0)), none⟩, []⟩,
    ⟨3, ⟨(some 9), .op (.iaddrS (.tmp 7) (.tmp 8) 1), none⟩, []⟩,
    ⟨4, ⟨(some 10), .op (.load 1 false (.tmp 9)), none⟩, []⟩,
    ⟨5, ⟨(some 11), .op (.load 1 false (.tmp 2)), none⟩, []⟩,
    ⟨6, ⟨(some 12), .op (.iaddrS (.tmp 10) (.tmp 11) 1), none⟩, []⟩,
    ⟨7, ⟨(some 13), .op (.load 1 false (.tmp 12)), none⟩, []⟩,
    ⟨8, ⟨(some 14), .op (.faddr (.tmp 3) 1), none⟩, []⟩,
    ⟨9, ⟨(some 15), .op (.load 1 false (.tmp 14)), none⟩, []⟩,
    ⟨10, ⟨(some 16), .op (.iaddrS (.tmp 13) (.tmp 15) 1), none⟩, []⟩,
    ⟨11, ⟨(some 17), .op (.load 1 false (.tmp 16)), none⟩, []⟩,
    ⟨12, ⟨(some 18), .call (.func i_impl_bits) [(.tmp 17)], none⟩, []⟩,
    ⟨13, ⟨(some 5), .op (.mv (.tmp 18)), none⟩, []⟩]
    [0, 1, 0, 7, 15, 0, 63, 127, 0, 256, 1023, 2047, 4095, 8191]) (.kill [0, 1, 2, 3, 6, 7, 8, 9, 10, 11, 12, 13, 14, 15, 16, 17, 18]))
  .ret))
theorem cf_impl_Choices_back_1_1 : chkFn Try.prog i_impl_Choices_back_1_1 ac_impl_Choices_back_1_1 [.tmp 5] 19 = true := by decide +kernel
def fa_impl_Choices_back_1_1 : FnA := ⟨ac_impl_Choices_back_1_1, [.tmp 5], 19, false, true, [], .any, none⟩

/-- The checked code of impl Choices  back 1. -/
def lb_impl_Choices_back_1_0 : AC := (.post (.seq (.reg [⟨(some 20), .op (.bin .lss (.tmp 19) (.tmp 18)), none⟩])
  (.seq (.cond (.tmp 20) (.ghost (.kill [20]) .skip)
  (.ghost (.kill [1, 3, 4, 17, 18, 19, 20]) (.exit 0)))
  (.seq (.block 1 (.seq (.post (.reg [⟨(some 21), .op (.iaddrS (.tmp 17) (.tmp 19) 2), none⟩,
    ⟨(some 22), .op (.load 2 true (.tmp 21)), none⟩,
    ⟨(some 9), .op (.alloc (Value.agg #[Value.int .i64 0, Value.int .i64 0])), none⟩,
    ⟨none, .op (.store 2 (.tmp 9) (.tmp 22)), none⟩]) (.kill [21, 22]))
  (.post (.reg [⟨(some 23), .op (.mv (.tmp 7)), none⟩,
    ⟨(some 24), .op (.faddr (.tmp 9) 0), none⟩,
    ⟨(some 25), .op (.load 1 false (.tmp 24)), none⟩,
    ⟨(some 26), .op (.faddr (.tmp 3) 0), none⟩,
    ⟨(some 27), .op (.iaddrA (.tmp 26) (.tmp 25) 5 1), none⟩,
    ⟨(some 28), .op (.load 1 false (.tmp 27)), none⟩,
    ⟨(some 29), .op (.mkfn i_impl_Choices_back_1_1 [(.tmp 1), (.tmp 4), (.tmp 9)]), none⟩,
    ⟨(some 30), .call (.func i_impl_all) [(.tmp 28), (.tmp 29)], none⟩,
    ⟨(some 31), .op (.bin .or (.tmp 23) (.tmp 30)), none⟩,
    ⟨(some 7), .op (.mv (.tmp 31)), none⟩]) (.kill [9, 23, 24, 25, 26, 27, 28, 29, 30, 31]))))
  (.post (.reg [⟨(some 32), .op (.bin .add (.tmp 19) (.const (Value.int .i64 1))), none⟩,
    ⟨(some 19), .op (.mv (.tmp 32)), none⟩]) (.kill [32]))))) .nv)
def lo_impl_Choices_back_1_0 : AC := (.loop lb_impl_Choices_back_1_0)
def ac_impl_Choices_back_1 : AC := (.seq (.post (.reg [⟨(some 6), .op (.mv (.const (Value.int .u64 0))), none⟩]) (.kill [6]))
  (.seq (.reg [⟨(some 7), .op (.mv (.const (Value.int .u64 0))), none⟩])
  (.seq (.seq (.post (.draw [⟨0, ⟨(some 10), .op (.faddr (.tmp 1) 3), none⟩, []⟩,
    ⟨1, ⟨(some 11), .op (.load 1 false (.tmp 10)), none⟩, []⟩,
    ⟨2, ⟨(some 12), .op (.mv (.tmp 0)), none⟩, []⟩,
    ⟨3, ⟨(some 13), .op (.iaddrS (.tmp 11) (.tmp 12) 1), none⟩, []⟩,
    ⟨4, ⟨(some 14), .op (.load 1 false (.tmp 13)), none⟩, []⟩,
    ⟨5, ⟨(some 15), .op (.load 1 false (.tmp 2)), none⟩, []⟩,
    ⟨6, ⟨(some 16), .op (.iaddrS (.tmp 14) (.tmp 15) 1), none⟩, []⟩,
    ⟨7, ⟨(some 17), .op (.load 1 false (.tmp 16)), none⟩, []⟩,
    ⟨8, ⟨(some 18), .op (.len false (.tmp 17)), none⟩, []⟩,
    ⟨9, ⟨(some 19), .op (.mv (.const (Value.int .i64 0))), none⟩, []⟩]
    [0, 1, 0, 7, 15, 0, 63, 127, 255, 0]) (.kill [0, 2, 10, 11, 12, 13, 14, 15, 16]))
  (.post (.block 0 (.ghost .nv lo_impl_Choices_back_1_0)) .nv))
  (.ghost (.kill [1, 3, 4, 17, 18, 19]) (.seq (.post (.reg [⟨(some 33), .op (.mv (.tmp 7)), none⟩,
    ⟨(some 6), .op (.mv (.tmp 33)), none⟩]) (.kill [7, 33]))
  .ret)))))
theorem cf_impl_Choices_back_1 : chkFn Try.prog i_impl_Choices_back_1 ac_impl_Choices_back_1 [.tmp 6] 34 = true := by decide +kernel
def fa_impl_Choices_back_1 : FnA := ⟨ac_impl_Choices_back_1, [.tmp 6], 34, false, true, [], .any, none⟩

/-- The checked code of impl Choices  back. -/
def lb_impl_Choices_back_0 : AC := (.post (.seq (.reg [⟨(some 24), .op (.bin .lss (.tmp 23) (.const (Value.int .i64 5))), none⟩])
  (.seq (.cond (.tmp 24) (.ghost (.kill [24]) .skip)
  (.ghost (.kill [11, 22, 23, 24]) (.exit 0)))
  (.seq (.block 1 (.seq (.post (.reg [⟨(some 25), .op (.mv (.tmp 23)), none⟩,
    ⟨(some 26), .op (.idxArr (.tmp 22) (.tmp 23) 5 1 false), none⟩,
    ⟨(some 13), .op (.mv (.tmp 25)), none⟩,
    ⟨(some 14), .op (.mv (.tmp 26)), none⟩]) (.kill [25, 26]))
  (.post (.reg [⟨(some 27), .op (.mv (.tmp 13)), none⟩,
    ⟨(some 28), .op (.mv (.tmp 14)), none⟩,
    ⟨(some 29), .op (.mv (.tmp 11)), none⟩,
    ⟨(some 30), .call (.func i_impl_all) [(.tmp 28), (.tmp 29)], none⟩,
    ⟨(some 31), .op (.faddr (.tmp 12) 0), none⟩,
    ⟨(some 32), .op (.iaddrA (.tmp 31) (.tmp 27) 5 1), none⟩,
    ⟨none, .op (.store 1 (.tmp 32) (.tmp 30)), none⟩]) (.kill [13, 14, 27, 28, 29, 30, 31, 32]))))
  (.post (.reg [⟨(some 33), .op (.bin .add (.tmp 23) (.const (Value.int .i64 1))), none⟩,
    ⟨(some 23), .op (.mv (.tmp 33)), none⟩]) (.kill [33]))))) .nv)
def lo_impl_Choices_back_0 : AC := (.loop lb_impl_Choices_back_0)
def ac_impl_Choices_back : AC := (.seq (.post (.reg [⟨(some 5), .op (.box true (.tmp 0)), none⟩,
    ⟨(some 6), .op (.box true (.tmp 1)), none⟩,
    ⟨(some 7), .op (.box true (.tmp 2)), none⟩,
    ⟨(some 8), .op (.box true (.tmp 3)), none⟩,
    ⟨(some 9), .op (.box true (.tmp 4)), none⟩,
    ⟨(some 10), .op (.alloc (Value.agg #[Value.int .u64 0, Value.int .u64 0, Value.int .u64 0, Value.int .u64 0, Value.int .u64 0, Value.int .u64 0])), none⟩]) (.kill [0, 1, 2, 3, 4]))
  (.seq (.post (.reg [⟨(some 15), .op (.mkfn i_impl_Choices_back_1 [(.tmp 5), (.tmp 7), (.tmp 8), (.tmp 9)]), none⟩,
    ⟨(some 11), .op (.mv (.tmp 15)), none⟩]) (.kill [5, 7, 8, 9, 15]))
  (.seq (.post (.reg [⟨(some 16), .op (.faddr (.tmp 6) 5), none⟩,
    ⟨(some 17), .op (.load 1 false (.tmp 16)), none⟩,
    ⟨(some 18), .op (.mv (.tmp 11)), none⟩,
    ⟨(some 19), .call (.func i_impl_all) [(.tmp 17), (.tmp 18)], none⟩,
    ⟨(some 20), .op (.build [Value.int .u64 0, Value.int .u64 0, Value.int .u64 0, Value.int .u64 0, Value.int .u64 0, Value.int .u64 0] [(5, 1, (.tmp 19))]), none⟩,
    ⟨(some 12), .op (.alloc (Value.agg #[Value.int .u64 0, Value.int .u64 0, Value.int .u64 0, Value.int .u64 0, Value.int .u64 0, Value.int .u64 0])), none⟩,
    ⟨none, .op (.store 6 (.tmp 12) (.tmp 20)), none⟩]) (.kill [16, 17, 18, 19, 20]))
  (.seq (.seq (.post (.reg [⟨(some 21), .op (.faddr (.tmp 6) 0), none⟩,
    ⟨(some 22), .op (.load 5 true (.tmp 21)), none⟩,
    ⟨(some 23), .op (.mv (.const (Value.int .i64 0))), none⟩]) (.kill [6, 21]))
  (.post (.block 0 (.ghost .nv lo_impl_Choices_back_0)) .nv))
  (.ghost (.kill [11, 22, 23]) (.seq (.post (.reg [⟨(some 34), .op (.load 6 true (.tmp 12)), none⟩,
    ⟨none, .op (.store 6 (.tmp 10) (.tmp 34)), none⟩]) (.kill [12, 34]))
  .ret))))))
theorem cf_impl_Choices_back : chkFn Try.prog i_impl_Choices_back ac_impl_Choices_back [.cell 10 6 true] 35 = true := by decide +kernel
def fa_impl_Choices_back : FnA := ⟨ac_impl_Choices_back, [.cell 10 6 true], 35, false, true, [], .any, none⟩

/-- The checked code of impl Choices  known. -/
def lb_impl_Choices_known_0 : AC := (.post (.seq (.reg [⟨(some 16), .op (.bin .lss (.tmp 15) (.tmp 14)), none⟩])
  (.seq (.cond (.tmp 16) (.ghost (.kill [16]) .skip)
  (.ghost (.kill [1, 2, 6, 14, 15, 16]) (.exit 0)))
  (.seq (.block 1 (.seq (.post (.reg [⟨(some 17), .op (.mv (.tmp 15)), none⟩,
    ⟨(some 7), .op (.mv (.tmp 17)), none⟩]) (.kill [17]))
  (.seq (.post (.reg [⟨(some 18), .op (.mv (.tmp 1)), none⟩,
    ⟨(some 19), .op (.mv (.tmp 7)), none⟩,
    ⟨(some 20), .op (.idxStr (.tmp 18) (.tmp 19)), none⟩,
    ⟨(some 21), .call (.func i_impl_kindOf) [(.tmp 20)], none⟩,
    ⟨(some 22), .op (.mv (.tmp 6)), none⟩,
    ⟨(some 23), .op (.len false (.tmp 22)), none⟩,
    ⟨(some 8), .op (.mv (.tmp 21)), none⟩,
    ⟨(some 9), .op (.mv (.tmp 23)), none⟩]) (.kill [18, 19, 20, 21, 22, 23]))
  (.block 2 (.seq (.post (.reg [⟨(some 45), .op (.mv (.tmp 1)), none⟩,
    ⟨(some 46), .op (.mv (.tmp 7)), none⟩,
    ⟨(some 47), .op (.idxStr (.tmp 45) (.tmp 46)), none⟩,
    ⟨(some 48), .call (.func i_impl_isCall) [(.tmp 47)], none⟩,
    ⟨(some 44), .op (.mv (.tmp 48)), none⟩]) (.kill [45, 46, 47, 48]))
  (.cond (.tmp 44) (.ghost (.kill [7, 9, 44]) (.seq (.post (.post (.reg [⟨(some 49), .op (.mv (.tmp 6)), none⟩,
    ⟨(some 50), .op (.load 6 true (.tmp 5)), none⟩,
    ⟨(some 51), .op (.mv (.tmp 8)), none⟩,
    ⟨(some 52), .op (.build [Value.int .u64 0, Value.int .u64 0, Value.int .u64 0, Value.int .u64 0, Value.int .u64 0, Value.int .u64 0, Value.int .i64 0] [(0, 6, (.tmp 50)), (6, 1, (.tmp 51))]), none⟩,
    ⟨(some 53), .op (.lits true 7 1 (Value.agg #[Value.int .u64 0, Value.int .u64 0, Value.int .u64 0, Value.int .u64 0, Value.int .u64 0, Value.int .u64 0, Value.int .i64 0]) [(0, (.tmp 52))]), none⟩,
    ⟨(some 54), .op (.append (.tmp 49) (.tmp 53) 7 56), none⟩,
    ⟨(some 6), .op (.mv (.tmp 54)), none⟩]) (.kill [49, 50, 51, 52, 53, 54])) .nv)
  (.post (.reg [⟨(some 55), .op (.load 6 true (.tmp 2)), none⟩,
    ⟨(some 56), .op (.load 6 true (.tmp 5)), none⟩,
    ⟨(some 57), .op (.mv (.tmp 8)), none⟩,
    ⟨(some 58), .call (.func i_impl_Choices_call) [(.tmp 55), (.tmp 56), (.tmp 57)], none⟩,
    ⟨none, .op (.store 6 (.tmp 5) (.tmp 58)), none⟩]) (.kill [8, 55, 56, 57, 58]))))
  (.ghost (.kill [44]) (.seq (.post (.reg [⟨(some 60), .op (.mv (.tmp 1)), none⟩,
    ⟨(some 61), .op (.mv (.tmp 7)), none⟩,
    ⟨(some 62), .op (.idxStr (.tmp 60) (.tmp 61)), none⟩,
    ⟨(some 63), .call (.func i_impl_isInner) [(.tmp 62)], none⟩,
    ⟨(some 59), .op (.mv (.tmp 63)), none⟩]) (.kill [7, 60, 61, 62, 63]))
  (.cond (.tmp 59) (.ghost (.kill [9, 59]) (.post (.reg [⟨(some 64), .op (.load 6 true (.tmp 2)), none⟩,
    ⟨(some 65), .op (.load 6 true (.tmp 5)), none⟩,
    ⟨(some 66), .op (.mv (.tmp 8)), none⟩,
    ⟨(some 67), .call (.func i_impl_Choices_inner) [(.tmp 64), (.tmp 65), (.tmp 66)], none⟩,
    ⟨none, .op (.store 6 (.tmp 5) (.tmp 67)), none⟩]) (.kill [8, 64, 65, 66, 67])))
  (.ghost (.kill [59]) (.seq (.post (.reg [⟨(some 69), .op (.mv (.tmp 9)), none⟩,
    ⟨(some 70), .op (.bin .eql (.tmp 69) (.const (Value.int .i64 0))), none⟩,
    ⟨(some 68), .op (.mv (.tmp 70)), none⟩]) (.kill [69, 70]))
  (.cond (.tmp 68) (.ghost (.kill [9, 68]) (.post (.reg [⟨(some 71), .op (.load 6 true (.tmp 2)), none⟩,
    ⟨(some 72), .op (.load 6 true (.tmp 5)), none⟩,
    ⟨(some 73), .op (.mv (.tmp 8)), none⟩,
    ⟨(some 74), .call (.func i_impl_Choices_free) [(.tmp 71), (.tmp 72), (.tmp 73)], none⟩,
    ⟨none, .op (.store 6 (.tmp 5) (.tmp 74)), none⟩]) (.kill [8, 71, 72, 73, 74])))
  (.ghost (.kill [68]) (.seq (.post (.draw [⟨0, ⟨(some 24), .op (.load 6 true (.tmp 2)), none⟩, []⟩,
    ⟨1, ⟨(some 25), .op (.mv (.tmp 6)), none⟩, []⟩,
    ⟨2, ⟨(some 26), .op (.mv (.tmp 9)), none⟩, []⟩,
    ⟨3, ⟨(some 27), .op (.bin .sub (.tmp 26) (.const (Value.int .i64 1))), none⟩, []⟩,
    ⟨4, ⟨(some 28), .op (.iaddrS (.tmp 25) (.tmp 27) 7), none⟩, []⟩,
    ⟨5, ⟨(some 29), .op (.faddr (.tmp 28) 0), none⟩, []⟩,
    ⟨6, ⟨(some 30), .op (.load 6 true (.tmp 29)), none⟩, []⟩,
    ⟨7, ⟨(some 31), .op (.mv (.tmp 6)), none⟩, []⟩,
    ⟨8, ⟨(some 32), .op (.mv (.tmp 9)), none⟩, []⟩,
    ⟨9, ⟨(some 33), .op (.bin .sub (.tmp 32) (.const (Value.int .i64 1))), none⟩, []⟩,
    ⟨10, ⟨(some 34), .op (.iaddrS (.tmp 31) (.tmp 33) 7), none⟩, []⟩,
    ⟨11, ⟨(some 35), .op (.faddr (.tmp 34) 6), none⟩, []⟩,
    ⟨12, ⟨(some 36), .op (.load 1 false (.tmp 35)), none⟩, []⟩,
    ⟨13, ⟨(some 37), .op (.load 6 true (.tmp 5)), none⟩, []⟩,
    ⟨14, ⟨(some 38), .op (.mv (.tmp 8)), none⟩, []⟩,
    ⟨15, ⟨(some 39), .call (.func i_impl_Choices_back) [(.tmp 24), (.tmp 30), (.tmp 36), (.tmp 37), (.tmp 38)], none⟩, []⟩,
    ⟨16, ⟨none, .op (.store 6 (.tmp 5) (.tmp 39)), none⟩, []⟩]
    [0, 0, 0, 4, 14, 30, 62, 0, 0, 256, 896, 1920, 3968, 0, 0, 32767, 65535]) (.kill [8, 24, 25, 26, 27, 28, 29, 30, 31, 32, 33, 34, 35, 36, 37, 38, 39]))
  (.post (.post (.reg [⟨(some 40), .op (.mv (.tmp 6)), none⟩,
    ⟨(some 41), .op (.mv (.tmp 9)), none⟩,
    ⟨(some 42), .op (.bin .sub (.tmp 41) (.const (Value.int .i64 1))), none⟩,
    ⟨(some 43), .op (.slcS (.tmp 40) none (some (.tmp 42)) none 7), none⟩,
    ⟨(some 6), .op (.mv (.tmp 43)), none⟩]) (.kill [9, 40, 41, 42, 43])) .nv)))))))))))))))
  (.post (.reg [⟨(some 75), .op (.bin .add (.tmp 15) (.const (Value.int .i64 1))), none⟩,
    ⟨(some 15), .op (.mv (.tmp 75)), none⟩]) (.kill [75]))))) .nv)
def lo_impl_Choices_known_0 : AC := (.loop lb_impl_Choices_known_0)
def ac_impl_Choices_known : AC := (.seq (.post (.reg [⟨(some 2), .op (.box true (.tmp 0)), none⟩,
    ⟨(some 4), .op (.alloc (Value.agg #[Value.int .u64 0, Value.int .u64 0, Value.int .u64 0, Value.int .u64 0, Value.int .u64 0, Value.int .u64 0])), none⟩]) (.kill [0]))
  (.seq (.post (.reg [⟨(some 10), .op (.load 6 true (.tmp 2)), none⟩,
    ⟨(some 11), .call (.func i_impl_Choices_start) [(.tmp 10)], none⟩,
    ⟨(some 12), .op (.lits true 7 0 (Value.agg #[Value.int .u64 0, Value.int .u64 0, Value.int .u64 0, Value.int .u64 0, Value.int .u64 0, Value.int .u64 0, Value.int .i64 0]) []), none⟩,
    ⟨(some 5), .op (.alloc (Value.agg #[Value.int .u64 0, Value.int .u64 0, Value.int .u64 0, Value.int .u64 0, Value.int .u64 0, Value.int .u64 0])), none⟩,
    ⟨none, .op (.store 6 (.tmp 5) (.tmp 11)), none⟩,
    ⟨(some 6), .op (.mv (.tmp 12)), none⟩]) (.kill [10, 11, 12]))
  (.seq (.seq (.post (.reg [⟨(some 13), .op (.mv (.tmp 1)), none⟩,
    ⟨(some 14), .op (.len true (.tmp 13)), none⟩,
    ⟨(some 15), .op (.mv (.const (Value.int .i64 0))), none⟩]) (.kill [13]))
  (.post (.block 0 (.ghost (.ow 6 none 7) (.ghost .nv lo_impl_Choices_known_0))) .nv))
  (.ghost (.kill [1, 2, 6, 14, 15]) (.seq (.post (.reg [⟨(some 76), .op (.load 6 true (.tmp 5)), none⟩,
    ⟨none, .op (.store 6 (.tmp 4) (.tmp 76)), none⟩]) (.kill [5, 76]))
  .ret)))))
theorem cf_impl_Choices_known : chkFn Try.prog i_impl_Choices_known ac_impl_Choices_known [.cell 4 6 true] 77 = true := by decide +kernel
def fa_impl_Choices_known : FnA := ⟨ac_impl_Choices_known, [.cell 4 6 true], 77, false, true, [], .any, none⟩

/-- The checked code of impl ChoicesTake. -/
def ac_impl_ChoicesTake : AC := (.seq (.post (.reg [⟨(some 2), .op (.box true (.tmp 0)), none⟩,
    ⟨(some 4), .op (.mv (.const (Value.bool false))), none⟩,
    ⟨(some 5), .op (.mv (.const (Value.int .i64 0))), none⟩]) (.kill [0, 4, 5]))
  (.seq (.seq (.post (.reg [⟨(some 6), .op (.load 6 true (.tmp 2)), none⟩,
    ⟨(some 7), .call (.func i_impl_ValidChoices) [(.tmp 6)], none⟩,
    ⟨(some 8), .op (.un .not (.tmp 7)), none⟩,
    ⟨(some 9), .op (.mv (.tmp 8)), none⟩,
    ⟨(some 10), .op (.mv (.tmp 1)), some (9, false)⟩,
    ⟨(some 11), .call (.func i_impl_ValidWord) [(.tmp 10)], some (9, false)⟩,
    ⟨(some 12), .op (.un .not (.tmp 11)), some (9, false)⟩,
    ⟨(some 13), .op (.pick (.tmp 9) (.const (Value.bool true)) (.tmp 12)), none⟩]) (.kill [6, 7, 8, 9, 10, 11, 12]))
  (.cond (.tmp 13) (.ghost (.kill [1, 2, 13]) (.seq (.reg [⟨(some 4), .op (.mv (.const (Value.bool false))), none⟩,
    ⟨(some 5), .op (.mv (.const (Value.int .i64 1))), none⟩])
  .ret))
  (.ghost (.kill [13]) .skip)))
  (.seq (.post (.draw [⟨0, ⟨(some 14), .op (.load 6 true (.tmp 2)), none⟩, []⟩,
    ⟨1, ⟨(some 15), .op (.load 6 true (.tmp 2)), none⟩, []⟩,
    ⟨2, ⟨(some 16), .op (.mv (.tmp 1)), none⟩, []⟩,
    ⟨3, ⟨(some 17), .call (.func i_impl_Choices_known) [(.tmp 15), (.tmp 16)], none⟩, [0]⟩,
    ⟨4, ⟨(some 18), .call (.func i_impl_Choices_isTaken) [(.tmp 14), (.tmp 17)], none⟩, []⟩,
    ⟨5, ⟨(some 4), .op (.mv (.tmp 18)), none⟩, []⟩,
    ⟨6, ⟨(some 5), .op (.mv (.const (Value.int .i64 0))), none⟩, []⟩]
    [0, 0, 0, 6, 15, 31, 63]) (.kill [1, 2, 14, 15, 16, 17, 18]))
  .ret)))
theorem cf_impl_ChoicesTake : chkFn Try.prog i_impl_ChoicesTake ac_impl_ChoicesTake [.tmp 4, .tmp 5] 19 = true := by decide +kernel
def fa_impl_ChoicesTake : FnA := ⟨ac_impl_ChoicesTake, [.tmp 4, .tmp 5], 19, false, true, [], .any, none⟩

/-- The checked code of laws FnExactChoicesTake. -/
def ac_laws_FnExactChoicesTake : AC := (.seq (.post (.reg [⟨(some 2), .op (.box true (.tmp 0)), none⟩,
    ⟨(some 4), .op (.mv (.const (Value.bool false))), none⟩]) (.kill [0, 4]))
  (.seq (.seq (.post (.reg [⟨(some 11), .op (.mv (.tmp 1)), none⟩,
    ⟨(some 12), .op (.len true (.tmp 11)), none⟩,
    ⟨(some 13), .op (.bin .gtr (.tmp 12) (.const (Value.int .i64 1048576))), none⟩]) (.kill [11, 12]))
  (.cond (.tmp 13) (.ghost (.kill [1, 2, 13]) (.seq (.reg [⟨(some 4), .op (.mv (.const (Value.bool true))), none⟩])
  .ret))
  (.ghost (.kill [13]) .skip)))
  (.seq (.reg [⟨(some 5), .op (.mv (.const (Value.int .i64 1048576))), none⟩])
  (.seq (.post (.reg [⟨(some 14), .op (.load 6 true (.tmp 2)), none⟩,
    ⟨(some 15), .op (.mv (.tmp 5)), none⟩,
    ⟨(some 16), .call (.func i_laws_szChoices) [(.tmp 14), (.tmp 15)], none⟩,
    ⟨(some 5), .op (.mv (.tmp 16)), none⟩]) (.kill [14, 15, 16]))
  (.seq (.seq (.post (.reg [⟨(some 17), .op (.mv (.tmp 5)), none⟩,
    ⟨(some 18), .op (.bin .lss (.tmp 17) (.const (Value.int .i64 0))), none⟩]) (.kill [5, 17]))
  (.cond (.tmp 18) (.ghost (.kill [1, 2, 18]) (.seq (.reg [⟨(some 4), .op (.mv (.const (Value.bool true))), none⟩])
  .ret))
  (.ghost (.kill [18]) .skip)))
  (.seq (.post (.reg [⟨(some 20), .op (.load 6 true (.tmp 2)), none⟩,
    ⟨(some 21), .call (.func i_laws_toChoices) [(.tmp 20)], none⟩,
    ⟨(some 22), .op (.mv (.tmp 1)), none⟩,
    ⟨(some 23), .call (.func i_spec_ChoicesTake) [(.tmp 21), (.tmp 22)], none⟩,
    ⟨(some 19), .op (.mv (.tmp 23)), none⟩,
    ⟨(some 24), .op (.ext (.tmp 19) 0), none⟩,
    ⟨(some 25), .op (.ext (.tmp 19) 1), none⟩,
    ⟨(some 6), .op (.mv (.tmp 24)), none⟩,
    ⟨(some 7), .op (.mv (.tmp 25)), none⟩]) (.kill [19, 20, 21, 22, 23, 24, 25]))
  (.seq (.post (.reg [⟨(some 26), .op (.load 6 true (.tmp 2)), none⟩,
    ⟨(some 27), .call (.func i_laws_toChoices) [(.tmp 26)], none⟩,
    ⟨(some 8), .op (.alloc (Value.agg #[Value.int .i64 0, Value.slice none 0 0, Value.slice none 0 0, Value.slice none 0 0, Value.slice none 0 0, Value.slice none 0 0])), none⟩,
    ⟨none, .op (.store 6 (.tmp 8) (.tmp 27)), none⟩]) (.kill [26, 27]))
  (.seq (.post (.reg [⟨(some 29), .op (.load 6 true (.tmp 8)), none⟩,
    ⟨(some 30), .op (.mv (.tmp 1)), none⟩,
    ⟨(some 31), .call (.func i_impl_ChoicesTake) [(.tmp 29), (.tmp 30)], none⟩,
    ⟨(some 28), .op (.mv (.tmp 31)), none⟩,
    ⟨(some 32), .op (.ext (.tmp 28) 0), none⟩,
    ⟨(some 33), .op (.ext (.tmp 28) 1), none⟩,
    ⟨(some 9), .op (.mv (.tmp 32)), none⟩,
    ⟨(some 10), .op (.mv (.tmp 33)), none⟩]) (.kill [1, 28, 29, 30, 31, 32, 33]))
  (.seq (.seq (.post (.reg [⟨(some 34), .op (.mv (.tmp 9)), none⟩,
    ⟨(some 35), .op (.mv (.tmp 6)), none⟩,
    ⟨(some 36), .op (.eqb true (.tmp 34) (.tmp 35)), none⟩,
    ⟨(some 37), .op (.mv (.tmp 36)), none⟩,
    ⟨(some 38), .op (.mv (.tmp 10)), some (37, false)⟩,
    ⟨(some 39), .op (.mv (.tmp 7)), some (37, false)⟩,
    ⟨(some 40), .op (.bin .neq (.tmp 38) (.tmp 39)), some (37, false)⟩,
    ⟨(some 41), .op (.pick (.tmp 37) (.const (Value.bool true)) (.tmp 40)), none⟩]) (.kill [6, 7, 9, 10, 34, 35, 36, 37, 38, 39, 40]))
  (.cond (.tmp 41) (.ghost (.kill [2, 8, 41]) (.seq (.reg [⟨(some 4), .op (.mv (.const (Value.bool false))), none⟩])
  .ret))
  (.ghost (.kill [41]) .skip)))
  (.seq (.seq (.post (.draw [⟨0, ⟨(some 42), .op (.load 6 true (.tmp 8)), none⟩, []⟩,
    ⟨1, ⟨(some 43), .op (.load 6 true (.tmp 2)), none⟩, []⟩,
    ⟨2, ⟨(some 44), .call (.func i_laws_toChoices) [(.tmp 43)], none⟩, [0]⟩,
    ⟨3, ⟨(some 45), .call (.func i_laws_eqChoices) [(.tmp 42), (.tmp 44)], none⟩, []⟩,
    ⟨4, ⟨(some 46), .op (.un .not (.tmp 45)), none⟩, []⟩]
    [0, 0, 2, 7, 15]) (.kill [2, 8, 42, 43, 44, 45]))
  (.cond (.tmp 46) (.ghost (.kill [46]) (.seq (.reg [⟨(some 4), .op (.mv (.const (Value.bool false))), none⟩])
  .ret))
  (.ghost (.kill [46]) .skip)))
  (.seq (.reg [⟨(some 4), .op (.mv (.const (Value.bool true))), none⟩])
  .ret)))))))))))
theorem cf_laws_FnExactChoicesTake : chkFn Try.prog i_laws_FnExactChoicesTake ac_laws_FnExactChoicesTake [.tmp 4] 47 = true := by decide +kernel
def fa_laws_FnExactChoicesTake : FnA := ⟨ac_laws_FnExactChoicesTake, [.tmp 4], 47, false, true, [], .any, none⟩

end Go.Proofs.Ytegjfjckijmgcaa
