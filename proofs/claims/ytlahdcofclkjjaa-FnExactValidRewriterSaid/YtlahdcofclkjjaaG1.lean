/- The code of the functions, checked against the loaded program; printed by a program (gen2.py). -/
import Derived.Test.YtlahdcofclkjjaaProg
import Derived.Test.YtlahdcofclkjjaaAw25
import Derived.Test.YtlahdcofclkjjaaG0
set_option linter.unusedVariables false
set_option maxRecDepth 100000
namespace Go.Proofs.Ytlahdcofclkjjaa
open Aw

/-- The checked code of impl ValidTreeEdit. -/
def ac_impl_ValidTreeEdit : AC := (.seq (.post (.reg [⟨(some 1), .op (.box true (.tmp 0)), none⟩,
    ⟨(some 2), .op (.mv (.const (Value.bool false))), none⟩]) (.kill [0, 2]))
  (.seq (.post (.reg [⟨(some 6), .op (.faddr (.tmp 1) 0), none⟩,
    ⟨(some 7), .op (.load 1 false (.tmp 6)), none⟩,
    ⟨(some 8), .call (.func i_impl_treeFormOf) [(.tmp 7)], none⟩,
    ⟨(some 5), .op (.mv (.tmp 8)), none⟩,
    ⟨(some 9), .op (.ext (.tmp 5) 0), none⟩,
    ⟨(some 10), .op (.ext (.tmp 5) 1), none⟩,
    ⟨(some 3), .op (.alloc (Value.agg #[Value.string ⟨#[]⟩, Value.bool false, Value.bool false])), none⟩,
    ⟨none, .op (.store 3 (.tmp 3) (.tmp 9)), none⟩,
    ⟨(some 4), .op (.mv (.tmp 10)), none⟩]) (.kill [5, 6, 7, 8, 9, 10]))
  (.seq (.seq (.post (.reg [⟨(some 11), .op (.mv (.tmp 4)), none⟩,
    ⟨(some 12), .op (.un .not (.tmp 11)), none⟩,
    ⟨(some 13), .op (.mv (.tmp 12)), none⟩,
    ⟨(some 14), .op (.faddr (.tmp 1) 1), some (13, false)⟩,
    ⟨(some 15), .op (.load 1 false (.tmp 14)), some (13, false)⟩,
    ⟨(some 16), .call (.func i_impl_within) [(.tmp 15), (.const (Value.int .i64 0)), (.const (Value.int .i64 60))], some (13, false)⟩,
    ⟨(some 17), .op (.un .not (.tmp 16)), some (13, false)⟩,
    ⟨(some 18), .op (.pick (.tmp 13) (.const (Value.bool true)) (.tmp 17)), none⟩,
    ⟨(some 19), .op (.mv (.tmp 18)), none⟩,
    ⟨(some 20), .op (.faddr (.tmp 1) 2), some (19, false)⟩,
    ⟨(some 21), .op (.load 1 false (.tmp 20)), some (19, false)⟩,
    ⟨(some 22), .call (.func i_impl_within) [(.tmp 21), (.const (Value.int .i64 0)), (.const (Value.int .i64 60))], some (19, false)⟩,
    ⟨(some 23), .op (.un .not (.tmp 22)), some (19, false)⟩,
    ⟨(some 24), .op (.pick (.tmp 19) (.const (Value.bool true)) (.tmp 23)), none⟩,
    ⟨(some 25), .op (.mv (.tmp 24)), none⟩,
    ⟨(some 26), .op (.faddr (.tmp 3) 1), some (25, false)⟩,
    ⟨(some 27), .op (.load 1 false (.tmp 26)), some (25, false)⟩,
    ⟨(some 28), .op (.un .not (.tmp 27)), some (25, false)⟩,
    ⟨(some 29), .op (.mv (.tmp 28)), some (25, false)⟩,
    ⟨(some 30), .op (.faddr (.tmp 1) 2), some (29, true)⟩,
    ⟨(some 31), .op (.load 1 false (.tmp 30)), some (29, true)⟩,
    ⟨(some 32), .op (.bin .neq (.tmp 31) (.const (Value.int .i64 0))), some (29, true)⟩,
    ⟨(some 33), .op (.pick (.tmp 29) (.tmp 32) (.const (Value.bool false))), some (25, false)⟩,
    ⟨(some 34), .op (.pick (.tmp 25) (.const (Value.bool true)) (.tmp 33)), none⟩]) (.kill [4, 11, 12, 13, 14, 15, 16, 17, 18, 19, 20, 21, 22, 23, 24, 25, 26, 27, 28, 29, 30, 31, 32, 33]))
  (.cond (.tmp 34) (.ghost (.kill [1, 3, 34]) (.seq (.reg [⟨(some 2), .op (.mv (.const (Value.bool false))), none⟩])
  .ret))
  (.ghost (.kill [34]) .skip)))
  (.seq (.block 0 (.seq (.post (.reg [⟨(some 36), .op (.faddr (.tmp 1) 0), none⟩,
    ⟨(some 37), .op (.load 1 false (.tmp 36)), none⟩,
    ⟨(some 38), .op (.bin .eql (.tmp 37) (.const (Value.int .i64 1))), none⟩,
    ⟨(some 35), .op (.mv (.tmp 38)), none⟩]) (.kill [36, 37, 38]))
  (.cond (.tmp 35) (.ghost (.kill [3, 35]) (.seq (.post (.reg [⟨(some 39), .op (.faddr (.tmp 1) 3), none⟩,
    ⟨(some 40), .op (.load 1 false (.tmp 39)), none⟩,
    ⟨(some 41), .call (.func i_impl_ValidWord) [(.tmp 40)], none⟩,
    ⟨(some 42), .op (.mv (.tmp 41)), none⟩,
    ⟨(some 43), .op (.faddr (.tmp 1) 3), some (42, true)⟩,
    ⟨(some 44), .op (.load 1 false (.tmp 43)), some (42, true)⟩,
    ⟨(some 45), .call (.func i_impl_isMatched) [(.tmp 44)], some (42, true)⟩,
    ⟨(some 46), .op (.pick (.tmp 42) (.tmp 45) (.const (Value.bool false))), none⟩,
    ⟨(some 2), .op (.mv (.tmp 46)), none⟩]) (.kill [1, 39, 40, 41, 42, 43, 44, 45, 46]))
  .ret))
  (.ghost (.kill [35]) (.seq (.post (.reg [⟨(some 48), .op (.faddr (.tmp 3) 2), none⟩,
    ⟨(some 49), .op (.load 1 false (.tmp 48)), none⟩,
    ⟨(some 47), .op (.mv (.tmp 49)), none⟩]) (.kill [3, 48, 49]))
  (.cond (.tmp 47) (.ghost (.kill [47]) (.seq (.post (.reg [⟨(some 50), .op (.faddr (.tmp 1) 3), none⟩,
    ⟨(some 51), .op (.load 1 false (.tmp 50)), none⟩,
    ⟨(some 52), .call (.func i_impl_isBrackets) [(.tmp 51)], none⟩,
    ⟨(some 2), .op (.mv (.tmp 52)), none⟩]) (.kill [1, 50, 51, 52]))
  .ret))
  (.ghost (.kill [47]) .skip)))))))
  (.seq (.post (.reg [⟨(some 53), .op (.faddr (.tmp 1) 3), none⟩,
    ⟨(some 54), .op (.load 1 false (.tmp 53)), none⟩,
    ⟨(some 55), .op (.bin .eql (.tmp 54) (.const (Value.string ⟨#[]⟩))), none⟩,
    ⟨(some 2), .op (.mv (.tmp 55)), none⟩]) (.kill [1, 53, 54, 55]))
  .ret)))))
theorem cf_impl_ValidTreeEdit : chkFn Try.prog i_impl_ValidTreeEdit ac_impl_ValidTreeEdit [.tmp 2] 56 = true := by decide +kernel
def fa_impl_ValidTreeEdit : FnA := ⟨ac_impl_ValidTreeEdit, [.tmp 2], 56, false, true, [], .any⟩

/-- The checked code of impl EditTrees 1. -/
def ac_impl_EditTrees_1 : AC := (.seq (.post (.reg [⟨(some 1), .op (.box true (.tmp 0)), none⟩,
    ⟨(some 2), .op (.mv (.const (Value.bool false))), none⟩]) (.kill [0, 2]))
  (.seq (.post (.reg [⟨(some 3), .op (.load 4 true (.tmp 1)), none⟩,
    ⟨(some 4), .call (.func i_impl_ValidTreeEdit) [(.tmp 3)], none⟩,
    ⟨(some 5), .op (.un .not (.tmp 4)), none⟩,
    ⟨(some 2), .op (.mv (.tmp 5)), none⟩]) (.kill [1, 3, 4, 5]))
  .ret))
theorem cf_impl_EditTrees_1 : chkFn Try.prog i_impl_EditTrees_1 ac_impl_EditTrees_1 [.tmp 2] 6 = true := by decide +kernel
def fa_impl_EditTrees_1 : FnA := ⟨ac_impl_EditTrees_1, [.tmp 2], 6, false, true, [], .any⟩

/-- The checked code of impl bodyAt. -/
def ac_impl_bodyAt : AC := (.seq (.post (.reg [⟨(some 4), .op (.mv (.const (Value.int .i64 0))), none⟩,
    ⟨(some 5), .op (.mv (.const (Value.int .i64 0))), none⟩]) (.kill [4, 5]))
  (.seq (.block 0 (.seq (.post (.reg [⟨(some 8), .op (.mv (.tmp 0)), none⟩,
    ⟨(some 9), .call (.func i_impl_ValidWord) [(.tmp 8)], none⟩,
    ⟨(some 10), .op (.un .not (.tmp 9)), none⟩,
    ⟨(some 7), .op (.mv (.tmp 10)), none⟩]) (.kill [8, 9, 10]))
  (.cond (.tmp 7) (.ghost (.kill [0, 1, 7]) (.seq (.reg [⟨(some 4), .op (.mv (.const (Value.int .i64 0))), none⟩,
    ⟨(some 5), .op (.mv (.const (Value.int .i64 1))), none⟩])
  .ret))
  (.ghost (.kill [7]) (.seq (.post (.reg [⟨(some 12), .op (.mv (.tmp 1)), none⟩,
    ⟨(some 13), .op (.mv (.tmp 0)), none⟩,
    ⟨(some 14), .op (.len true (.tmp 13)), none⟩,
    ⟨(some 15), .op (.bin .sub (.tmp 14) (.const (Value.int .i64 1))), none⟩,
    ⟨(some 16), .call (.func i_impl_within) [(.tmp 12), (.const (Value.int .i64 0)), (.tmp 15)], none⟩,
    ⟨(some 17), .op (.un .not (.tmp 16)), none⟩,
    ⟨(some 11), .op (.mv (.tmp 17)), none⟩]) (.kill [12, 13, 14, 15, 16, 17]))
  (.cond (.tmp 11) (.ghost (.kill [0, 1, 11]) (.seq (.reg [⟨(some 4), .op (.mv (.const (Value.int .i64 0))), none⟩,
    ⟨(some 5), .op (.mv (.const (Value.int .i64 2))), none⟩])
  .ret))
  (.ghost (.kill [11]) .skip)))))))
  (.seq (.post (.reg [⟨(some 18), .op (.mv (.tmp 0)), none⟩,
    ⟨(some 19), .call (.func i_impl_match) [(.tmp 18)], none⟩,
    ⟨(some 20), .op (.field (.tmp 19) 0 1 false), none⟩,
    ⟨(some 21), .op (.mv (.tmp 1)), none⟩,
    ⟨(some 22), .op (.iaddrS (.tmp 20) (.tmp 21) 1), none⟩,
    ⟨(some 23), .op (.load 1 false (.tmp 22)), none⟩,
    ⟨(some 6), .op (.mv (.tmp 23)), none⟩]) (.kill [18, 19, 20, 21, 22, 23]))
  (.seq (.seq (.post (.reg [⟨(some 24), .op (.mv (.tmp 0)), none⟩,
    ⟨(some 25), .op (.mv (.tmp 1)), none⟩,
    ⟨(some 26), .op (.idxStr (.tmp 24) (.tmp 25)), none⟩,
    ⟨(some 27), .call (.func i_impl_isCall) [(.tmp 26)], none⟩,
    ⟨(some 28), .op (.un .not (.tmp 27)), none⟩,
    ⟨(some 29), .op (.mv (.tmp 28)), none⟩,
    ⟨(some 30), .op (.mv (.tmp 6)), some (29, false)⟩,
    ⟨(some 31), .op (.bin .lss (.tmp 30) (.const (Value.int .i64 0))), some (29, false)⟩,
    ⟨(some 32), .op (.pick (.tmp 29) (.const (Value.bool true)) (.tmp 31)), none⟩]) (.kill [0, 1, 24, 25, 26, 27, 28, 29, 30, 31]))
  (.cond (.tmp 32) (.ghost (.kill [6, 32]) (.seq (.reg [⟨(some 4), .op (.mv (.const (Value.int .i64 0))), none⟩,
    ⟨(some 5), .op (.mv (.const (Value.int .i64 4))), none⟩])
  .ret))
  (.ghost (.kill [32]) .skip)))
  (.seq (.post (.reg [⟨(some 33), .op (.mv (.tmp 6)), none⟩,
    ⟨(some 4), .op (.mv (.tmp 33)), none⟩,
    ⟨(some 5), .op (.mv (.const (Value.int .i64 0))), none⟩]) (.kill [6, 33]))
  .ret)))))
theorem cf_impl_bodyAt : chkFn Try.prog i_impl_bodyAt ac_impl_bodyAt [.tmp 4, .tmp 5] 34 = true := by decide +kernel
def fa_impl_bodyAt : FnA := ⟨ac_impl_bodyAt, [.tmp 4, .tmp 5], 34, false, true, [], .any⟩

/-- The checked code of impl orLimit. -/
def ac_impl_orLimit : AC := (.seq (.post (.reg [⟨(some 2), .op (.mv (.const (Value.string ⟨#[]⟩))), none⟩,
    ⟨(some 3), .op (.mv (.const (Value.int .i64 0))), none⟩]) (.kill [2, 3]))
  (.seq (.seq (.post (.reg [⟨(some 4), .op (.mv (.tmp 0)), none⟩,
    ⟨(some 5), .call (.func i_impl_ValidWord) [(.tmp 4)], none⟩,
    ⟨(some 6), .op (.un .not (.tmp 5)), none⟩]) (.kill [4, 5]))
  (.cond (.tmp 6) (.ghost (.kill [0, 6]) (.seq (.reg [⟨(some 2), .op (.mv (.const (Value.string ⟨#[]⟩))), none⟩,
    ⟨(some 3), .op (.mv (.const (Value.int .i64 3))), none⟩])
  .ret))
  (.ghost (.kill [6]) .skip)))
  (.seq (.post (.reg [⟨(some 7), .op (.mv (.tmp 0)), none⟩,
    ⟨(some 2), .op (.mv (.tmp 7)), none⟩,
    ⟨(some 3), .op (.mv (.const (Value.int .i64 0))), none⟩]) (.kill [0, 7]))
  .ret)))
theorem cf_impl_orLimit : chkFn Try.prog i_impl_orLimit ac_impl_orLimit [.tmp 2, .tmp 3] 8 = true := by decide +kernel
def fa_impl_orLimit : FnA := ⟨ac_impl_orLimit, [.tmp 2, .tmp 3], 8, false, true, [], .any⟩

/-- The checked code of impl PutAt. -/
def ac_impl_PutAt : AC := (.seq (.post (.reg [⟨(some 6), .op (.mv (.const (Value.string ⟨#[]⟩))), none⟩,
    ⟨(some 7), .op (.mv (.const (Value.int .i64 0))), none⟩]) (.kill [6, 7]))
  (.seq (.block 0 (.seq (.post (.reg [⟨(some 9), .op (.mv (.tmp 0)), none⟩,
    ⟨(some 10), .call (.func i_impl_ValidWord) [(.tmp 9)], none⟩,
    ⟨(some 11), .op (.un .not (.tmp 10)), none⟩,
    ⟨(some 12), .op (.mv (.tmp 11)), none⟩,
    ⟨(some 13), .op (.mv (.tmp 2)), some (12, false)⟩,
    ⟨(some 14), .call (.func i_impl_ValidWord) [(.tmp 13)], some (12, false)⟩,
    ⟨(some 15), .op (.un .not (.tmp 14)), some (12, false)⟩,
    ⟨(some 16), .op (.pick (.tmp 12) (.const (Value.bool true)) (.tmp 15)), none⟩,
    ⟨(some 8), .op (.mv (.tmp 16)), none⟩]) (.kill [9, 10, 11, 12, 13, 14, 15, 16]))
  (.cond (.tmp 8) (.ghost (.kill [0, 1, 2, 8]) (.seq (.reg [⟨(some 6), .op (.mv (.const (Value.string ⟨#[]⟩))), none⟩,
    ⟨(some 7), .op (.mv (.const (Value.int .i64 1))), none⟩])
  .ret))
  (.ghost (.kill [8]) (.seq (.post (.reg [⟨(some 18), .op (.mv (.tmp 1)), none⟩,
    ⟨(some 19), .op (.mv (.tmp 0)), none⟩,
    ⟨(some 20), .op (.len true (.tmp 19)), none⟩,
    ⟨(some 21), .call (.func i_impl_within) [(.tmp 18), (.const (Value.int .i64 0)), (.tmp 20)], none⟩,
    ⟨(some 22), .op (.un .not (.tmp 21)), none⟩,
    ⟨(some 17), .op (.mv (.tmp 22)), none⟩]) (.kill [18, 19, 20, 21, 22]))
  (.cond (.tmp 17) (.ghost (.kill [0, 1, 2, 17]) (.seq (.reg [⟨(some 6), .op (.mv (.const (Value.string ⟨#[]⟩))), none⟩,
    ⟨(some 7), .op (.mv (.const (Value.int .i64 2))), none⟩])
  .ret))
  (.ghost (.kill [17]) (.seq (.post (.reg [⟨(some 24), .op (.mv (.tmp 2)), none⟩,
    ⟨(some 25), .call (.func i_impl_isMatched) [(.tmp 24)], none⟩,
    ⟨(some 26), .op (.un .not (.tmp 25)), none⟩,
    ⟨(some 23), .op (.mv (.tmp 26)), none⟩]) (.kill [24, 25, 26]))
  (.cond (.tmp 23) (.ghost (.kill [0, 1, 2, 23]) (.seq (.reg [⟨(some 6), .op (.mv (.const (Value.string ⟨#[]⟩))), none⟩,
    ⟨(some 7), .op (.mv (.const (Value.int .i64 4))), none⟩])
  .ret))
  (.ghost (.kill [23]) .skip))))))))))
  (.seq (.post (.draw [⟨0, ⟨(some 27), .op (.mv (.tmp 0)), none⟩, []⟩,
    ⟨1, ⟨(some 28), .op (.mv (.tmp 1)), none⟩, []⟩,
    ⟨2, ⟨(some 29), .op (.slcStr (.tmp 27) none (some (.tmp 28))), none⟩, []⟩,
    ⟨3, ⟨(some 30), .op (.mv (.tmp 2)), none⟩, []⟩,
    ⟨4, ⟨(some 31), .op (.bin .add (.tmp 29) (.tmp 30)), none⟩, []⟩,
    ⟨5, ⟨(some 32), .op (.mv (.tmp 0)), none⟩, []⟩,
    ⟨6, ⟨(some 33), .op (.mv (.tmp 1)), none⟩, []⟩,
    ⟨7, ⟨(some 34), .op (.slcStr (.tmp 32) (some (.tmp 33)) none), none⟩, []⟩,
    ⟨8, ⟨(some 35), .op (.bin .add (.tmp 31) (.tmp 34)), none⟩, []⟩,
    ⟨9, ⟨(some 36), .call (.func i_impl_orLimit) [(.tmp 35)], none⟩, []⟩,
    ⟨10, ⟨(some 37), .op (.ext (.tmp 36) 0), none⟩, []⟩,
    ⟨11, ⟨(some 38), .op (.ext (.tmp 36) 1), none⟩, []⟩,
    ⟨12, ⟨(some 6), .op (.mv (.tmp 37)), none⟩, []⟩,
    ⟨13, ⟨(some 7), .op (.mv (.tmp 38)), none⟩, []⟩]
    [0, 0, 3, 0, 15, 0, 0, 96, 255, 511, 1023, 1023, 4095, 8191]) (.kill [0, 1, 2, 27, 28, 29, 30, 31, 32, 33, 34, 35, 36, 37, 38]))
  .ret)))
theorem cf_impl_PutAt : chkFn Try.prog i_impl_PutAt ac_impl_PutAt [.tmp 6, .tmp 7] 39 = true := by decide +kernel
def fa_impl_PutAt : FnA := ⟨ac_impl_PutAt, [.tmp 6, .tmp 7], 39, false, true, [], .any⟩

/-- The checked code of impl CutMatched. -/
def ac_impl_CutMatched : AC := (.seq (.post (.reg [⟨(some 4), .op (.mv (.const (Value.string ⟨#[]⟩))), none⟩,
    ⟨(some 5), .op (.mv (.const (Value.int .i64 0))), none⟩]) (.kill [4, 5]))
  (.seq (.post (.reg [⟨(some 9), .op (.mv (.tmp 0)), none⟩,
    ⟨(some 10), .op (.mv (.tmp 1)), none⟩,
    ⟨(some 11), .call (.func i_impl_bodyAt) [(.tmp 9), (.tmp 10)], none⟩,
    ⟨(some 8), .op (.mv (.tmp 11)), none⟩,
    ⟨(some 12), .op (.ext (.tmp 8) 0), none⟩,
    ⟨(some 13), .op (.ext (.tmp 8) 1), none⟩,
    ⟨(some 6), .op (.mv (.tmp 12)), none⟩,
    ⟨(some 7), .op (.mv (.tmp 13)), none⟩]) (.kill [8, 9, 10, 11, 12, 13]))
  (.seq (.seq (.post (.reg [⟨(some 14), .op (.mv (.tmp 7)), none⟩,
    ⟨(some 15), .op (.bin .neq (.tmp 14) (.const (Value.int .i64 0))), none⟩]) (.kill [14]))
  (.cond (.tmp 15) (.ghost (.kill [0, 1, 6, 15]) (.seq (.post (.reg [⟨(some 16), .op (.mv (.tmp 7)), none⟩,
    ⟨(some 4), .op (.mv (.const (Value.string ⟨#[]⟩))), none⟩,
    ⟨(some 5), .op (.mv (.tmp 16)), none⟩]) (.kill [7, 16]))
  .ret))
  (.ghost (.kill [7, 15]) .skip)))
  (.seq (.post (.draw [⟨0, ⟨(some 17), .op (.mv (.tmp 0)), none⟩, []⟩,
    ⟨1, ⟨(some 18), .op (.mv (.tmp 1)), none⟩, []⟩,
    ⟨2, ⟨(some 19), .op (.slcStr (.tmp 17) none (some (.tmp 18))), none⟩, []⟩,
    ⟨3, ⟨(some 20), .op (.mv (.tmp 0)), none⟩, []⟩,
    ⟨4, ⟨(some 21), .op (.mv (.tmp 6)), none⟩, []⟩,
    ⟨5, ⟨(some 22), .op (.bin .add (.tmp 21) (.const (Value.int .i64 1))), none⟩, []⟩,
    ⟨6, ⟨(some 23), .op (.slcStr (.tmp 20) (some (.tmp 22)) none), none⟩, []⟩,
    ⟨7, ⟨(some 24), .op (.bin .add (.tmp 19) (.tmp 23)), none⟩, []⟩,
    ⟨8, ⟨(some 4), .op (.mv (.tmp 24)), none⟩, []⟩,
    ⟨9, ⟨(some 5), .op (.mv (.const (Value.int .i64 0))), none⟩, []⟩]
    [0, 0, 3, 0, 0, 16, 56, 127, 255, 511]) (.kill [0, 1, 6, 17, 18, 19, 20, 21, 22, 23, 24]))
  .ret))))
theorem cf_impl_CutMatched : chkFn Try.prog i_impl_CutMatched ac_impl_CutMatched [.tmp 4, .tmp 5] 25 = true := by decide +kernel
def fa_impl_CutMatched : FnA := ⟨ac_impl_CutMatched, [.tmp 4, .tmp 5], 25, false, true, [], .any⟩

/-- The checked code of impl editTree. -/
def ac_impl_editTree : AC := (.seq (.post (.reg [⟨(some 3), .op (.box true (.tmp 1)), none⟩,
    ⟨(some 4), .op (.mv (.const (Value.string ⟨#[]⟩))), none⟩,
    ⟨(some 5), .op (.mv (.const (Value.int .i64 0))), none⟩]) (.kill [1, 4, 5]))
  (.seq (.seq (.post (.reg [⟨(some 10), .op (.faddr (.tmp 3) 0), none⟩,
    ⟨(some 11), .op (.load 1 false (.tmp 10)), none⟩]) (.kill [10]))
  (.block 0 (.seq (.post (.reg [⟨(some 13), .op (.bin .eql (.tmp 11) (.const (Value.int .i64 1))), none⟩,
    ⟨(some 12), .op (.mv (.tmp 13)), none⟩]) (.kill [13]))
  (.cond (.tmp 12) (.ghost (.kill [11, 12]) (.seq (.post (.reg [⟨(some 14), .op (.mv (.tmp 0)), none⟩,
    ⟨(some 15), .op (.faddr (.tmp 3) 1), none⟩,
    ⟨(some 16), .op (.load 1 false (.tmp 15)), none⟩,
    ⟨(some 17), .op (.faddr (.tmp 3) 3), none⟩,
    ⟨(some 18), .op (.load 1 false (.tmp 17)), none⟩,
    ⟨(some 19), .call (.func i_impl_PutAt) [(.tmp 14), (.tmp 16), (.tmp 18)], none⟩,
    ⟨(some 20), .op (.ext (.tmp 19) 0), none⟩,
    ⟨(some 21), .op (.ext (.tmp 19) 1), none⟩,
    ⟨(some 4), .op (.mv (.tmp 20)), none⟩,
    ⟨(some 5), .op (.mv (.tmp 21)), none⟩]) (.kill [0, 3, 14, 15, 16, 17, 18, 19, 20, 21]))
  .ret))
  (.ghost (.kill [12]) (.seq (.post (.reg [⟨(some 23), .op (.bin .eql (.tmp 11) (.const (Value.int .i64 2))), none⟩,
    ⟨(some 22), .op (.mv (.tmp 23)), none⟩]) (.kill [23]))
  (.cond (.tmp 22) (.ghost (.kill [11, 22]) (.seq (.post (.reg [⟨(some 24), .op (.mv (.tmp 0)), none⟩,
    ⟨(some 25), .op (.faddr (.tmp 3) 1), none⟩,
    ⟨(some 26), .op (.load 1 false (.tmp 25)), none⟩,
    ⟨(some 27), .call (.func i_impl_CutMatched) [(.tmp 24), (.tmp 26)], none⟩,
    ⟨(some 28), .op (.ext (.tmp 27) 0), none⟩,
    ⟨(some 29), .op (.ext (.tmp 27) 1), none⟩,
    ⟨(some 4), .op (.mv (.tmp 28)), none⟩,
    ⟨(some 5), .op (.mv (.tmp 29)), none⟩]) (.kill [0, 3, 24, 25, 26, 27, 28, 29]))
  .ret))
  (.ghost (.kill [22]) (.seq (.post (.reg [⟨(some 31), .op (.bin .eql (.tmp 11) (.const (Value.int .i64 4))), none⟩,
    ⟨(some 30), .op (.mv (.tmp 31)), none⟩]) (.kill [11, 31]))
  (.cond (.tmp 30) (.ghost (.kill [30]) (.seq (.block 1 (.seq (.post (.reg [⟨(some 33), .op (.faddr (.tmp 3) 1), none⟩,
    ⟨(some 34), .op (.load 1 false (.tmp 33)), none⟩,
    ⟨(some 35), .op (.faddr (.tmp 3) 2), none⟩,
    ⟨(some 36), .op (.load 1 false (.tmp 35)), none⟩,
    ⟨(some 37), .call (.func i_impl_within) [(.tmp 34), (.const (Value.int .i64 0)), (.tmp 36)], none⟩,
    ⟨(some 38), .op (.un .not (.tmp 37)), none⟩,
    ⟨(some 39), .op (.mv (.tmp 38)), none⟩,
    ⟨(some 40), .op (.faddr (.tmp 3) 2), some (39, false)⟩,
    ⟨(some 41), .op (.load 1 false (.tmp 40)), some (39, false)⟩,
    ⟨(some 42), .op (.mv (.tmp 0)), some (39, false)⟩,
    ⟨(some 43), .op (.len true (.tmp 42)), some (39, false)⟩,
    ⟨(some 44), .op (.bin .gtr (.tmp 41) (.tmp 43)), some (39, false)⟩,
    ⟨(some 45), .op (.pick (.tmp 39) (.const (Value.bool true)) (.tmp 44)), none⟩,
    ⟨(some 32), .op (.mv (.tmp 45)), none⟩]) (.kill [33, 34, 35, 36, 37, 38, 39, 40, 41, 42, 43, 44, 45]))
  (.cond (.tmp 32) (.ghost (.kill [0, 3, 32]) (.seq (.reg [⟨(some 4), .op (.mv (.const (Value.string ⟨#[]⟩))), none⟩,
    ⟨(some 5), .op (.mv (.const (Value.int .i64 2))), none⟩])
  .ret))
  (.ghost (.kill [32]) (.seq (.post (.reg [⟨(some 47), .op (.mv (.tmp 0)), none⟩,
    ⟨(some 48), .op (.faddr (.tmp 3) 1), none⟩,
    ⟨(some 49), .op (.load 1 false (.tmp 48)), none⟩,
    ⟨(some 50), .op (.faddr (.tmp 3) 2), none⟩,
    ⟨(some 51), .op (.load 1 false (.tmp 50)), none⟩,
    ⟨(some 52), .op (.slcStr (.tmp 47) (some (.tmp 49)) (some (.tmp 51))), none⟩,
    ⟨(some 53), .call (.func i_impl_isMatched) [(.tmp 52)], none⟩,
    ⟨(some 54), .op (.un .not (.tmp 53)), none⟩,
    ⟨(some 46), .op (.mv (.tmp 54)), none⟩]) (.kill [47, 48, 49, 50, 51, 52, 53, 54]))
  (.cond (.tmp 46) (.ghost (.kill [0, 3, 46]) (.seq (.reg [⟨(some 4), .op (.mv (.const (Value.string ⟨#[]⟩))), none⟩,
    ⟨(some 5), .op (.mv (.const (Value.int .i64 4))), none⟩])
  .ret))
  (.ghost (.kill [46]) .skip)))))))
  (.seq (.post (.draw [⟨0, ⟨(some 55), .op (.mv (.tmp 0)), none⟩, []⟩,
    ⟨1, ⟨(some 56), .op (.faddr (.tmp 3) 1), none⟩, []⟩,
    ⟨2, ⟨(some 57), .op (.load 1 false (.tmp 56)), none⟩, []⟩,
    ⟨3, ⟨(some 58), .op (.slcStr (.tmp 55) none (some (.tmp 57))), none⟩, []⟩,
    ⟨4, ⟨(some 59), .op (.faddr (.tmp 3) 3), none⟩, []⟩,
    ⟨5, ⟨(some 60), .op (.load 1 false (.tmp 59)), none⟩, []⟩,
    ⟨6, ⟨(some 61), .op (.slcStr (.tmp 60) none (some (.const (Value.int .i64 1)))), none⟩, []⟩,
    ⟨7, ⟨(some 62), .op (.bin .add (.tmp 58) (.tmp 61)), none⟩, []⟩,
    ⟨8, ⟨(some 63), .op (.mv (.tmp 0)), none⟩, []⟩,
    ⟨9, ⟨(some 64), .op (.faddr (.tmp 3) 1), none⟩, []⟩,
    ⟨10, ⟨(some 65), .op (.load 1 false (.tmp 64)), none⟩, []⟩,
    ⟨11, ⟨(some 66), .op (.faddr (.tmp 3) 2), none⟩, []⟩,
    ⟨12, ⟨(some 67), .op (.load 1 false (.tmp 66)), none⟩, []⟩,
    ⟨13, ⟨(some 68), .op (.slcStr (.tmp 63) (some (.tmp 65)) (some (.tmp 67))), none⟩, []⟩,
    ⟨14, ⟨(some 69), .op (.bin .add (.tmp 62) (.tmp 68)), none⟩, []⟩,
    ⟨15, ⟨(some 70), .op (.faddr (.tmp 3) 3), none⟩, []⟩,
    ⟨16, ⟨(some 71), .op (.load 1 false (.tmp 70)), none⟩, []⟩,
    ⟨17, ⟨(some 72), .op (.slcStr (.tmp 71) (some (.const (Value.int .i64 1))) none), none⟩, []⟩,
    ⟨18, ⟨(some 73), .op (.bin .add (.tmp 69) (.tmp 72)), none⟩, []⟩,
    ⟨19, ⟨(some 74), .op (.mv (.tmp 0)), none⟩, []⟩,
    ⟨20, ⟨(some 75), .op (.faddr (.tmp 3) 2), none⟩, []⟩,
    ⟨21, ⟨(some 76), .op (.load 1 false (.tmp 75)), none⟩, []⟩,
    ⟨22, ⟨(some 77), .op (.slcStr (.tmp 74) (some (.tmp 76)) none), none⟩, []⟩,
    ⟨23, ⟨(some 78), .op (.bin .add (.tmp 73) (.tmp 77)), none⟩, []⟩,
    ⟨24, ⟨(some 79), .call (.func i_impl_orLimit) [(.tmp 78)], none⟩, []⟩,
    ⟨25, ⟨(some 80), .op (.ext (.tmp 79) 0), none⟩, []⟩,
    ⟨26, ⟨(some 81), .op (.ext (.tmp 79) 1), none⟩, []⟩,
    ⟨27, ⟨(some 4), .op (.mv (.tmp 80)), none⟩, []⟩,
    ⟨28, ⟨(some 5), .op (.mv (.tmp 81)), none⟩, []⟩]
    [0, 0, 2, 7, 0, 16, 48, 127, 0, 0, 512, 0, 2048, 7936, 16383, 0, 32768, 98304, 262143, 0, 0, 1048576, 3670016, 8388607, 16777215, 33554431, 33554431, 134217727, 268435455]) (.kill [0, 3, 55, 56, 57, 58, 59, 60, 61, 62, 63, 64, 65, 66, 67, 68, 69, 70, 71, 72, 73, 74, 75, 76, 77, 78, 79, 80, 81]))
  .ret)))
  (.ghost (.kill [30]) .skip)))))))))))
  (.seq (.post (.reg [⟨(some 83), .op (.mv (.tmp 0)), none⟩,
    ⟨(some 84), .op (.faddr (.tmp 3) 1), none⟩,
    ⟨(some 85), .op (.load 1 false (.tmp 84)), none⟩,
    ⟨(some 86), .call (.func i_impl_bodyAt) [(.tmp 83), (.tmp 85)], none⟩,
    ⟨(some 82), .op (.mv (.tmp 86)), none⟩,
    ⟨(some 87), .op (.ext (.tmp 82) 0), none⟩,
    ⟨(some 88), .op (.ext (.tmp 82) 1), none⟩,
    ⟨(some 6), .op (.mv (.tmp 87)), none⟩,
    ⟨(some 7), .op (.mv (.tmp 88)), none⟩]) (.kill [82, 83, 84, 85, 86, 87, 88]))
  (.seq (.seq (.post (.reg [⟨(some 89), .op (.mv (.tmp 7)), none⟩,
    ⟨(some 90), .op (.bin .neq (.tmp 89) (.const (Value.int .i64 0))), none⟩]) (.kill [89]))
  (.cond (.tmp 90) (.ghost (.kill [0, 3, 6, 90]) (.seq (.post (.reg [⟨(some 91), .op (.mv (.tmp 7)), none⟩,
    ⟨(some 4), .op (.mv (.const (Value.string ⟨#[]⟩))), none⟩,
    ⟨(some 5), .op (.mv (.tmp 91)), none⟩]) (.kill [7, 91]))
  .ret))
  (.ghost (.kill [7, 90]) .skip)))
  (.seq (.reg [⟨(some 8), .op (.mv (.const (Value.string ⟨#[]⟩))), none⟩,
    ⟨(some 9), .op (.mv (.const (Value.string ⟨#[]⟩))), none⟩])
  (.seq (.seq (.post (.reg [⟨(some 92), .op (.faddr (.tmp 3) 0), none⟩,
    ⟨(some 93), .op (.load 1 false (.tmp 92)), none⟩,
    ⟨(some 94), .op (.bin .eql (.tmp 93) (.const (Value.int .i64 5))), none⟩]) (.kill [92, 93]))
  (.cond (.tmp 94) (.ghost (.kill [8, 9, 94]) (.post (.draw [⟨0, ⟨(some 95), .op (.faddr (.tmp 3) 3), none⟩, []⟩,
    ⟨1, ⟨(some 96), .op (.load 1 false (.tmp 95)), none⟩, []⟩,
    ⟨2, ⟨(some 97), .op (.slcStr (.tmp 96) none (some (.const (Value.int .i64 1)))), none⟩, []⟩,
    ⟨3, ⟨(some 98), .op (.faddr (.tmp 3) 3), none⟩, []⟩,
    ⟨4, ⟨(some 99), .op (.load 1 false (.tmp 98)), none⟩, []⟩,
    ⟨5, ⟨(some 100), .op (.slcStr (.tmp 99) (some (.const (Value.int .i64 1))) none), none⟩, []⟩,
    ⟨6, ⟨(some 8), .op (.mv (.tmp 97)), none⟩, []⟩,
    ⟨7, ⟨(some 9), .op (.mv (.tmp 100)), none⟩, []⟩]
    [0, 1, 3, 0, 8, 24, 7, 127]) (.kill [95, 96, 97, 98, 99, 100])))
  (.ghost (.kill [94]) .skip)))
  (.seq (.post (.draw [⟨0, ⟨(some 101), .op (.mv (.tmp 0)), none⟩, []⟩,
    ⟨1, ⟨(some 102), .op (.faddr (.tmp 3) 1), none⟩, []⟩,
    ⟨2, ⟨(some 103), .op (.load 1 false (.tmp 102)), none⟩, []⟩,
    ⟨3, ⟨(some 104), .op (.slcStr (.tmp 101) none (some (.tmp 103))), none⟩, []⟩,
    ⟨4, ⟨(some 105), .op (.mv (.tmp 8)), none⟩, []⟩,
    ⟨5, ⟨(some 106), .op (.bin .add (.tmp 104) (.tmp 105)), none⟩, []⟩,
    ⟨6, ⟨(some 107), .op (.mv (.tmp 0)), none⟩, []⟩,
    ⟨7, ⟨(some 108), .op (.faddr (.tmp 3) 1), none⟩, []⟩,
    ⟨8, ⟨(some 109), .op (.load 1 false (.tmp 108)), none⟩, []⟩,
    ⟨9, ⟨(some 110), .op (.bin .add (.tmp 109) (.const (Value.int .i64 1))), none⟩, []⟩,
    ⟨10, ⟨(some 111), .op (.mv (.tmp 6)), none⟩, []⟩,
    ⟨11, ⟨(some 112), .op (.slcStr (.tmp 107) (some (.tmp 110)) (some (.tmp 111))), none⟩, []⟩,
    ⟨12, ⟨(some 113), .op (.bin .add (.tmp 106) (.tmp 112)), none⟩, []⟩,
    ⟨13, ⟨(some 114), .op (.mv (.tmp 9)), none⟩, []⟩,
    ⟨14, ⟨(some 115), .op (.bin .add (.tmp 113) (.tmp 114)), none⟩, []⟩,
    ⟨15, ⟨(some 116), .op (.mv (.tmp 0)), none⟩, []⟩,
    ⟨16, ⟨(some 117), .op (.mv (.tmp 6)), none⟩, []⟩,
    ⟨17, ⟨(some 118), .op (.bin .add (.tmp 117) (.const (Value.int .i64 1))), none⟩, []⟩,
    ⟨18, ⟨(some 119), .op (.slcStr (.tmp 116) (some (.tmp 118)) none), none⟩, []⟩,
    ⟨19, ⟨(some 120), .op (.bin .add (.tmp 115) (.tmp 119)), none⟩, []⟩,
    ⟨20, ⟨(some 4), .op (.mv (.tmp 120)), none⟩, []⟩,
    ⟨21, ⟨(some 5), .op (.mv (.const (Value.int .i64 0))), none⟩, []⟩]
    [0, 0, 2, 7, 0, 31, 0, 0, 128, 384, 0, 1984, 4095, 0, 16383, 0, 0, 65536, 229376, 524287, 1048575, 2097151]) (.kill [0, 3, 6, 8, 9, 101, 102, 103, 104, 105, 106, 107, 108, 109, 110, 111, 112, 113, 114, 115, 116, 117, 118, 119, 120]))
  .ret)))))))
theorem cf_impl_editTree : chkFn Try.prog i_impl_editTree ac_impl_editTree [.tmp 4, .tmp 5] 121 = true := by decide +kernel
def fa_impl_editTree : FnA := ⟨ac_impl_editTree, [.tmp 4, .tmp 5], 121, false, true, [], .any⟩

/-- The checked code of impl EditTrees. -/
def lb_impl_EditTrees_0 : AC := (.post (.seq (.reg [⟨(some 27), .op (.bin .lss (.tmp 26) (.tmp 25)), none⟩])
  (.seq (.cond (.tmp 27) (.ghost (.kill [27]) .skip)
  (.ghost (.kill [24, 25, 26, 27]) (.exit 1)))
  (.seq (.block 2 (.seq (.post (.reg [⟨(some 28), .op (.iaddrS (.tmp 24) (.tmp 26) 4), none⟩,
    ⟨(some 29), .op (.load 4 true (.tmp 28)), none⟩,
    ⟨(some 9), .op (.alloc (Value.agg #[Value.int .i64 0, Value.int .i64 0, Value.int .i64 0, Value.string ⟨#[]⟩])), none⟩,
    ⟨none, .op (.store 4 (.tmp 9) (.tmp 29)), none⟩]) (.kill [28, 29]))
  (.seq (.post (.reg [⟨(some 31), .op (.mv (.tmp 0)), none⟩,
    ⟨(some 32), .op (.load 4 true (.tmp 9)), none⟩,
    ⟨(some 33), .call (.func i_impl_editTree) [(.tmp 31), (.tmp 32)], none⟩,
    ⟨(some 30), .op (.mv (.tmp 33)), none⟩,
    ⟨(some 34), .op (.ext (.tmp 30) 0), none⟩,
    ⟨(some 35), .op (.ext (.tmp 30) 1), none⟩,
    ⟨(some 10), .op (.mv (.tmp 34)), none⟩,
    ⟨(some 11), .op (.mv (.tmp 35)), none⟩]) (.kill [9, 30, 31, 32, 33, 34, 35]))
  (.seq (.post (.reg [⟨(some 36), .op (.mv (.tmp 11)), none⟩,
    ⟨(some 37), .op (.bin .eql (.tmp 36) (.const (Value.int .i64 0))), none⟩]) (.kill [11, 36]))
  (.cond (.tmp 37) (.ghost (.kill [0, 37]) (.seq (.post (.reg [⟨(some 38), .op (.mv (.tmp 10)), none⟩,
    ⟨(some 0), .op (.mv (.tmp 38)), none⟩]) (.kill [10, 38]))
  (.post (.reg [⟨(some 39), .op (.mv (.tmp 7)), none⟩,
    ⟨(some 40), .op (.bin .add (.tmp 39) (.const (Value.int .i64 1))), none⟩,
    ⟨(some 7), .op (.mv (.tmp 40)), none⟩]) (.kill [39, 40]))))
  (.ghost (.kill [10, 37]) .skip))))))
  (.post (.reg [⟨(some 41), .op (.bin .add (.tmp 26) (.const (Value.int .i64 1))), none⟩,
    ⟨(some 26), .op (.mv (.tmp 41)), none⟩]) (.kill [41]))))) .nv)
def lo_impl_EditTrees_0 : AC := (.loop lb_impl_EditTrees_0)
def ac_impl_EditTrees : AC := (.seq (.post (.reg [⟨(some 4), .op (.mv (.const (Value.string ⟨#[]⟩))), none⟩,
    ⟨(some 5), .op (.mv (.const (Value.int .i64 0))), none⟩,
    ⟨(some 6), .op (.mv (.const (Value.int .i64 0))), none⟩]) (.kill [4, 5, 6]))
  (.seq (.block 0 (.seq (.post (.reg [⟨(some 13), .op (.mv (.tmp 0)), none⟩,
    ⟨(some 14), .call (.func i_impl_ValidWord) [(.tmp 13)], none⟩,
    ⟨(some 15), .op (.un .not (.tmp 14)), none⟩,
    ⟨(some 16), .op (.mv (.tmp 15)), none⟩,
    ⟨(some 17), .op (.mv (.tmp 1)), some (16, false)⟩,
    ⟨(some 18), .call (.func i_slices_ContainsFunc_L_impl_TreeEdit) [(.tmp 17), (.func i_impl_EditTrees_1)], some (16, false)⟩,
    ⟨(some 19), .op (.pick (.tmp 16) (.const (Value.bool true)) (.tmp 18)), none⟩,
    ⟨(some 12), .op (.mv (.tmp 19)), none⟩]) (.kill [13, 14, 15, 16, 17, 18, 19]))
  (.cond (.tmp 12) (.ghost (.kill [0, 1, 12]) (.seq (.reg [⟨(some 4), .op (.mv (.const (Value.string ⟨#[]⟩))), none⟩,
    ⟨(some 5), .op (.mv (.const (Value.int .i64 0))), none⟩,
    ⟨(some 6), .op (.mv (.const (Value.int .i64 1))), none⟩])
  .ret))
  (.ghost (.kill [12]) (.seq (.post (.reg [⟨(some 21), .op (.mv (.tmp 1)), none⟩,
    ⟨(some 22), .op (.len false (.tmp 21)), none⟩,
    ⟨(some 23), .op (.bin .gtr (.tmp 22) (.const (Value.int .i64 60))), none⟩,
    ⟨(some 20), .op (.mv (.tmp 23)), none⟩]) (.kill [21, 22, 23]))
  (.cond (.tmp 20) (.ghost (.kill [0, 1, 20]) (.seq (.reg [⟨(some 4), .op (.mv (.const (Value.string ⟨#[]⟩))), none⟩,
    ⟨(some 5), .op (.mv (.const (Value.int .i64 0))), none⟩,
    ⟨(some 6), .op (.mv (.const (Value.int .i64 2))), none⟩])
  .ret))
  (.ghost (.kill [20]) .skip)))))))
  (.seq (.reg [⟨(some 7), .op (.mv (.const (Value.int .i64 0))), none⟩])
  (.seq (.seq (.post (.reg [⟨(some 24), .op (.mv (.tmp 1)), none⟩,
    ⟨(some 25), .op (.len false (.tmp 24)), none⟩,
    ⟨(some 26), .op (.mv (.const (Value.int .i64 0))), none⟩]) (.kill [1]))
  (.post (.block 1 (.ghost .nv lo_impl_EditTrees_0)) .nv))
  (.ghost (.kill [24, 25, 26]) (.seq (.post (.reg [⟨(some 42), .op (.mv (.tmp 0)), none⟩,
    ⟨(some 43), .op (.mv (.tmp 7)), none⟩,
    ⟨(some 4), .op (.mv (.tmp 42)), none⟩,
    ⟨(some 5), .op (.mv (.tmp 43)), none⟩,
    ⟨(some 6), .op (.mv (.const (Value.int .i64 0))), none⟩]) (.kill [0, 7, 42, 43]))
  .ret))))))
theorem cf_impl_EditTrees : chkFn Try.prog i_impl_EditTrees ac_impl_EditTrees [.tmp 4, .tmp 5, .tmp 6] 44 = true := by decide +kernel
def fa_impl_EditTrees : FnA := ⟨ac_impl_EditTrees, [.tmp 4, .tmp 5, .tmp 6], 44, false, true, [], .any⟩

/-- The checked code of laws eqTreeEdit. -/
def ac_laws_eqTreeEdit : AC := (.seq (.post (.reg [⟨(some 2), .op (.box true (.tmp 0)), none⟩,
    ⟨(some 3), .op (.box true (.tmp 1)), none⟩,
    ⟨(some 4), .op (.mv (.const (Value.bool false))), none⟩]) (.kill [0, 1, 4]))
  (.seq (.seq (.post (.reg [⟨(some 5), .op (.faddr (.tmp 2) 0), none⟩,
    ⟨(some 6), .op (.load 1 false (.tmp 5)), none⟩,
    ⟨(some 7), .op (.faddr (.tmp 3) 0), none⟩,
    ⟨(some 8), .op (.load 1 false (.tmp 7)), none⟩,
    ⟨(some 9), .op (.bin .neq (.tmp 6) (.tmp 8)), none⟩]) (.kill [5, 6, 7, 8]))
  (.cond (.tmp 9) (.ghost (.kill [2, 3, 9]) (.seq (.reg [⟨(some 4), .op (.mv (.const (Value.bool false))), none⟩])
  .ret))
  (.ghost (.kill [9]) .skip)))
  (.seq (.seq (.post (.reg [⟨(some 10), .op (.faddr (.tmp 2) 1), none⟩,
    ⟨(some 11), .op (.load 1 false (.tmp 10)), none⟩,
    ⟨(some 12), .op (.faddr (.tmp 3) 1), none⟩,
    ⟨(some 13), .op (.load 1 false (.tmp 12)), none⟩,
    ⟨(some 14), .op (.bin .neq (.tmp 11) (.tmp 13)), none⟩]) (.kill [10, 11, 12, 13]))
  (.cond (.tmp 14) (.ghost (.kill [2, 3, 14]) (.seq (.reg [⟨(some 4), .op (.mv (.const (Value.bool false))), none⟩])
  .ret))
  (.ghost (.kill [14]) .skip)))
  (.seq (.seq (.post (.reg [⟨(some 15), .op (.faddr (.tmp 2) 2), none⟩,
    ⟨(some 16), .op (.load 1 false (.tmp 15)), none⟩,
    ⟨(some 17), .op (.faddr (.tmp 3) 2), none⟩,
    ⟨(some 18), .op (.load 1 false (.tmp 17)), none⟩,
    ⟨(some 19), .op (.bin .neq (.tmp 16) (.tmp 18)), none⟩]) (.kill [15, 16, 17, 18]))
  (.cond (.tmp 19) (.ghost (.kill [2, 3, 19]) (.seq (.reg [⟨(some 4), .op (.mv (.const (Value.bool false))), none⟩])
  .ret))
  (.ghost (.kill [19]) .skip)))
  (.seq (.seq (.post (.reg [⟨(some 20), .op (.faddr (.tmp 2) 3), none⟩,
    ⟨(some 21), .op (.load 1 false (.tmp 20)), none⟩,
    ⟨(some 22), .op (.faddr (.tmp 3) 3), none⟩,
    ⟨(some 23), .op (.load 1 false (.tmp 22)), none⟩,
    ⟨(some 24), .op (.bin .neq (.tmp 21) (.tmp 23)), none⟩]) (.kill [2, 3, 20, 21, 22, 23]))
  (.cond (.tmp 24) (.ghost (.kill [24]) (.seq (.reg [⟨(some 4), .op (.mv (.const (Value.bool false))), none⟩])
  .ret))
  (.ghost (.kill [24]) .skip)))
  (.seq (.reg [⟨(some 4), .op (.mv (.const (Value.bool true))), none⟩])
  .ret))))))
theorem cf_laws_eqTreeEdit : chkFn Try.prog i_laws_eqTreeEdit ac_laws_eqTreeEdit [.tmp 4] 25 = true := by decide +kernel
def fa_laws_eqTreeEdit : FnA := ⟨ac_laws_eqTreeEdit, [.tmp 4], 25, false, true, [], .any⟩

/-- The checked code of laws eqTreeEditS. -/
def lb_laws_eqTreeEditS_0 : AC := (.seq (.seq (.post (.reg [⟨(some 11), .op (.mv (.tmp 5)), none⟩,
    ⟨(some 12), .op (.mv (.tmp 0)), none⟩,
    ⟨(some 13), .op (.len false (.tmp 12)), none⟩,
    ⟨(some 14), .op (.bin .lss (.tmp 11) (.tmp 13)), none⟩]) (.kill [11, 12, 13]))
  (.cond (.tmp 14) (.ghost (.kill [14]) .skip)
  (.ghost (.kill [0, 1, 5, 14]) (.exit 0))))
  (.seq (.block 1 (.seq (.post (.draw [⟨0, ⟨(some 17), .op (.mv (.tmp 0)), none⟩, []⟩,
    ⟨1, ⟨(some 18), .op (.mv (.tmp 5)), none⟩, []⟩,
    ⟨2, ⟨(some 19), .op (.iaddrS (.tmp 17) (.tmp 18) 4), none⟩, []⟩,
    ⟨3, ⟨(some 20), .op (.load 4 true (.tmp 19)), none⟩, []⟩,
    ⟨4, ⟨(some 21), .op (.mv (.tmp 1)), none⟩, []⟩,
    ⟨5, ⟨(some 22), .op (.mv (.tmp 5)), none⟩, []⟩,
    ⟨6, ⟨(some 23), .op (.iaddrS (.tmp 21) (.tmp 22) 4), none⟩, []⟩,
    ⟨7, ⟨(some 24), .op (.load 4 true (.tmp 23)), none⟩, []⟩,
    ⟨8, ⟨(some 25), .call (.func i_laws_eqTreeEdit) [(.tmp 20), (.tmp 24)], none⟩, []⟩,
    ⟨9, ⟨(some 26), .op (.un .not (.tmp 25)), none⟩, []⟩]
    [0, 0, 3, 7, 0, 0, 48, 112, 255, 511]) (.kill [17, 18, 19, 20, 21, 22, 23, 24, 25]))
  (.cond (.tmp 26) (.ghost (.kill [0, 1, 5, 26]) (.seq (.reg [⟨(some 4), .op (.mv (.const (Value.bool false))), none⟩])
  .ret))
  (.ghost (.kill [26]) .skip))))
  (.post (.reg [⟨(some 15), .op (.mv (.tmp 5)), none⟩,
    ⟨(some 16), .op (.bin .add (.tmp 15) (.const (Value.int .i64 1))), none⟩,
    ⟨(some 5), .op (.mv (.tmp 16)), none⟩]) (.kill [15, 16]))))
def lo_laws_eqTreeEditS_0 : AC := (.loop lb_laws_eqTreeEditS_0)
def ac_laws_eqTreeEditS : AC := (.seq (.post (.reg [⟨(some 4), .op (.mv (.const (Value.bool false))), none⟩]) (.kill [4]))
  (.seq (.seq (.post (.reg [⟨(some 6), .op (.mv (.tmp 0)), none⟩,
    ⟨(some 7), .op (.len false (.tmp 6)), none⟩,
    ⟨(some 8), .op (.mv (.tmp 1)), none⟩,
    ⟨(some 9), .op (.len false (.tmp 8)), none⟩,
    ⟨(some 10), .op (.bin .neq (.tmp 7) (.tmp 9)), none⟩]) (.kill [6, 7, 8, 9]))
  (.cond (.tmp 10) (.ghost (.kill [0, 1, 10]) (.seq (.reg [⟨(some 4), .op (.mv (.const (Value.bool false))), none⟩])
  .ret))
  (.ghost (.kill [10]) .skip)))
  (.seq (.seq (.reg [⟨(some 5), .op (.mv (.const (Value.int .i64 0))), none⟩])
  (.block 0 lo_laws_eqTreeEditS_0))
  (.ghost (.kill [0, 1, 5]) (.seq (.reg [⟨(some 4), .op (.mv (.const (Value.bool true))), none⟩])
  .ret)))))
theorem cf_laws_eqTreeEditS : chkFn Try.prog i_laws_eqTreeEditS ac_laws_eqTreeEditS [.tmp 4] 27 = true := by decide +kernel
def fa_laws_eqTreeEditS : FnA := ⟨ac_laws_eqTreeEditS, [.tmp 4], 27, false, true, [], .any⟩

/-- The checked code of laws FnExactEditTrees. -/
def ac_laws_FnExactEditTrees : AC := (.seq (.post (.reg [⟨(some 4), .op (.mv (.const (Value.bool false))), none⟩]) (.kill [4]))
  (.seq (.seq (.post (.reg [⟨(some 13), .op (.mv (.tmp 0)), none⟩,
    ⟨(some 14), .op (.len true (.tmp 13)), none⟩,
    ⟨(some 15), .op (.bin .gtr (.tmp 14) (.const (Value.int .i64 1048576))), none⟩]) (.kill [13, 14]))
  (.cond (.tmp 15) (.ghost (.kill [0, 1, 15]) (.seq (.reg [⟨(some 4), .op (.mv (.const (Value.bool true))), none⟩])
  .ret))
  (.ghost (.kill [15]) .skip)))
  (.seq (.reg [⟨(some 5), .op (.mv (.const (Value.int .i64 1048576))), none⟩])
  (.seq (.post (.reg [⟨(some 16), .op (.mv (.tmp 1)), none⟩,
    ⟨(some 17), .op (.mv (.tmp 5)), none⟩,
    ⟨(some 18), .call (.func i_laws_szTreeEditS) [(.tmp 16), (.tmp 17)], none⟩,
    ⟨(some 5), .op (.mv (.tmp 18)), none⟩]) (.kill [16, 17, 18]))
  (.seq (.seq (.post (.reg [⟨(some 19), .op (.mv (.tmp 5)), none⟩,
    ⟨(some 20), .op (.bin .lss (.tmp 19) (.const (Value.int .i64 0))), none⟩]) (.kill [5, 19]))
  (.cond (.tmp 20) (.ghost (.kill [0, 1, 20]) (.seq (.reg [⟨(some 4), .op (.mv (.const (Value.bool true))), none⟩])
  .ret))
  (.ghost (.kill [20]) .skip)))
  (.seq (.post (.reg [⟨(some 22), .op (.mv (.tmp 0)), none⟩,
    ⟨(some 23), .op (.mv (.tmp 1)), none⟩,
    ⟨(some 24), .call (.func i_laws_toTreeEditS) [(.tmp 23)], none⟩,
    ⟨(some 25), .call (.func i_spec_EditTrees) [(.tmp 22), (.tmp 24)], none⟩,
    ⟨(some 21), .op (.mv (.tmp 25)), none⟩,
    ⟨(some 26), .op (.ext (.tmp 21) 0), none⟩,
    ⟨(some 27), .op (.ext (.tmp 21) 1), none⟩,
    ⟨(some 28), .op (.ext (.tmp 21) 2), none⟩,
    ⟨(some 6), .op (.mv (.tmp 26)), none⟩,
    ⟨(some 7), .op (.mv (.tmp 27)), none⟩,
    ⟨(some 8), .op (.mv (.tmp 28)), none⟩]) (.kill [21, 22, 23, 24, 25, 26, 27, 28]))
  (.seq (.post (.reg [⟨(some 29), .op (.mv (.tmp 1)), none⟩,
    ⟨(some 30), .call (.func i_laws_toTreeEditS) [(.tmp 29)], none⟩,
    ⟨(some 9), .op (.mv (.tmp 30)), none⟩]) (.kill [29, 30]))
  (.seq (.post (.reg [⟨(some 32), .op (.mv (.tmp 0)), none⟩,
    ⟨(some 33), .op (.mv (.tmp 9)), none⟩,
    ⟨(some 34), .call (.func i_impl_EditTrees) [(.tmp 32), (.tmp 33)], none⟩,
    ⟨(some 31), .op (.mv (.tmp 34)), none⟩,
    ⟨(some 35), .op (.ext (.tmp 31) 0), none⟩,
    ⟨(some 36), .op (.ext (.tmp 31) 1), none⟩,
    ⟨(some 37), .op (.ext (.tmp 31) 2), none⟩,
    ⟨(some 10), .op (.mv (.tmp 35)), none⟩,
    ⟨(some 11), .op (.mv (.tmp 36)), none⟩,
    ⟨(some 12), .op (.mv (.tmp 37)), none⟩]) (.kill [0, 31, 32, 33, 34, 35, 36, 37]))
  (.seq (.seq (.post (.reg [⟨(some 38), .op (.mv (.tmp 10)), none⟩,
    ⟨(some 39), .op (.mv (.tmp 6)), none⟩,
    ⟨(some 40), .op (.bin .neq (.tmp 38) (.tmp 39)), none⟩,
    ⟨(some 41), .op (.mv (.tmp 40)), none⟩,
    ⟨(some 42), .op (.mv (.tmp 11)), some (41, false)⟩,
    ⟨(some 43), .op (.mv (.tmp 7)), some (41, false)⟩,
    ⟨(some 44), .op (.bin .neq (.tmp 42) (.tmp 43)), some (41, false)⟩,
    ⟨(some 45), .op (.pick (.tmp 41) (.const (Value.bool true)) (.tmp 44)), none⟩,
    ⟨(some 46), .op (.mv (.tmp 45)), none⟩,
    ⟨(some 47), .op (.mv (.tmp 12)), some (46, false)⟩,
    ⟨(some 48), .op (.mv (.tmp 8)), some (46, false)⟩,
    ⟨(some 49), .op (.bin .neq (.tmp 47) (.tmp 48)), some (46, false)⟩,
    ⟨(some 50), .op (.pick (.tmp 46) (.const (Value.bool true)) (.tmp 49)), none⟩]) (.kill [6, 7, 8, 10, 11, 12, 38, 39, 40, 41, 42, 43, 44, 45, 46, 47, 48, 49]))
  (.cond (.tmp 50) (.ghost (.kill [1, 9, 50]) (.seq (.reg [⟨(some 4), .op (.mv (.const (Value.bool false))), none⟩])
  .ret))
  (.ghost (.kill [50]) .skip)))
  (.seq (.seq (.post (.reg [⟨(some 51), .op (.mv (.tmp 9)), none⟩,
    ⟨(some 52), .op (.mv (.tmp 1)), none⟩,
    ⟨(some 53), .call (.func i_laws_toTreeEditS) [(.tmp 52)], none⟩,
    ⟨(some 54), .call (.func i_laws_eqTreeEditS) [(.tmp 51), (.tmp 53)], none⟩,
    ⟨(some 55), .op (.un .not (.tmp 54)), none⟩]) (.kill [1, 9, 51, 52, 53, 54]))
  (.cond (.tmp 55) (.ghost (.kill [55]) (.seq (.reg [⟨(some 4), .op (.mv (.const (Value.bool false))), none⟩])
  .ret))
  (.ghost (.kill [55]) .skip)))
  (.seq (.reg [⟨(some 4), .op (.mv (.const (Value.bool true))), none⟩])
  .ret)))))))))))
theorem cf_laws_FnExactEditTrees : chkFn Try.prog i_laws_FnExactEditTrees ac_laws_FnExactEditTrees [.tmp 4] 56 = true := by decide +kernel
def fa_laws_FnExactEditTrees : FnA := ⟨ac_laws_FnExactEditTrees, [.tmp 4], 56, false, true, [], .any⟩

/-- The checked code of spec l06Given. -/
def ac_spec_l06Given : AC := (.seq (.post (.reg [⟨(some 4), .op (.mv (.const (Value.int .i64 0))), none⟩]) (.kill [4]))
  (.seq (.seq (.post (.reg [⟨(some 5), .op (.mv (.tmp 0)), none⟩,
    ⟨(some 6), .call (.func i_spec_l01Ok) [(.tmp 5)], none⟩,
    ⟨(some 7), .op (.un .not (.tmp 6)), none⟩,
    ⟨(some 8), .op (.mv (.tmp 7)), none⟩,
    ⟨(some 9), .op (.mv (.tmp 1)), some (8, false)⟩,
    ⟨(some 10), .call (.func i_spec_l06Edit) [(.tmp 9)], some (8, false)⟩,
    ⟨(some 11), .op (.un .not (.tmp 10)), some (8, false)⟩,
    ⟨(some 12), .op (.pick (.tmp 8) (.const (Value.bool true)) (.tmp 11)), none⟩]) (.kill [0, 1, 5, 6, 7, 8, 9, 10, 11]))
  (.cond (.tmp 12) (.ghost (.kill [12]) (.seq (.reg [⟨(some 4), .op (.mv (.const (Value.int .i64 1))), none⟩])
  .ret))
  (.ghost (.kill [12]) .skip)))
  (.seq (.reg [⟨(some 4), .op (.mv (.const (Value.int .i64 0))), none⟩])
  .ret)))
theorem cf_spec_l06Given : chkFn Try.prog i_spec_l06Given ac_spec_l06Given [.tmp 4] 13 = true := by decide +kernel
def fa_spec_l06Given : FnA := ⟨ac_spec_l06Given, [.tmp 4], 13, false, true, [], .any⟩

/-- The checked code of spec l01Factors. -/
def lb_spec_l01Factors_0 : AC := (.post (.seq (.seq (.post (.reg [⟨(some 10), .op (.mv (.tmp 5)), none⟩,
    ⟨(some 11), .op (.mv (.tmp 0)), none⟩,
    ⟨(some 12), .op (.len true (.tmp 11)), none⟩,
    ⟨(some 13), .op (.bin .lss (.tmp 10) (.tmp 12)), none⟩]) (.kill [10, 11, 12]))
  (.cond (.tmp 13) (.ghost (.kill [13]) .skip)
  (.ghost (.kill [0, 3, 5, 13]) (.exit 0))))
  (.block 1 (.seq (.post (.reg [⟨(some 14), .op (.mv (.tmp 5)), none⟩,
    ⟨(some 15), .op (.bin .add (.tmp 14) (.const (Value.int .i64 1))), none⟩,
    ⟨(some 6), .op (.mv (.tmp 15)), none⟩]) (.kill [14, 15]))
  (.seq (.seq (.post (.reg [⟨(some 16), .op (.mv (.tmp 0)), none⟩,
    ⟨(some 17), .op (.mv (.tmp 5)), none⟩,
    ⟨(some 18), .op (.idxStr (.tmp 16) (.tmp 17)), none⟩,
    ⟨(some 19), .call (.func i_spec_l01Call) [(.tmp 18)], none⟩]) (.kill [16, 17, 18]))
  (.cond (.tmp 19) (.ghost (.kill [6, 19]) (.post (.reg [⟨(some 20), .op (.mv (.tmp 3)), none⟩,
    ⟨(some 21), .op (.mv (.tmp 5)), none⟩,
    ⟨(some 22), .op (.iaddrS (.tmp 20) (.tmp 21) 1), none⟩,
    ⟨(some 23), .op (.load 1 false (.tmp 22)), none⟩,
    ⟨(some 24), .op (.bin .add (.tmp 23) (.const (Value.int .i64 1))), none⟩,
    ⟨(some 6), .op (.mv (.tmp 24)), none⟩]) (.kill [20, 21, 22, 23, 24])))
  (.ghost (.kill [19]) .skip)))
  (.seq (.post (.post (.reg [⟨(some 25), .op (.mv (.tmp 4)), none⟩,
    ⟨(some 26), .op (.mv (.tmp 0)), none⟩,
    ⟨(some 27), .op (.mv (.tmp 5)), none⟩,
    ⟨(some 28), .op (.mv (.tmp 6)), none⟩,
    ⟨(some 29), .op (.slcStr (.tmp 26) (some (.tmp 27)) (some (.tmp 28))), none⟩,
    ⟨(some 30), .op (.lits true 1 1 (Value.string ⟨#[]⟩) [(0, (.tmp 29))]), none⟩,
    ⟨(some 31), .op (.append (.tmp 25) (.tmp 30) 1 16), none⟩,
    ⟨(some 4), .op (.mv (.tmp 31)), none⟩]) (.kill [5, 25, 26, 27, 28, 29, 30, 31])) .nv)
  (.post (.reg [⟨(some 32), .op (.mv (.tmp 6)), none⟩,
    ⟨(some 5), .op (.mv (.tmp 32)), none⟩]) (.kill [6, 32]))))))) .nv)
def lo_spec_l01Factors_0 : AC := (.loop lb_spec_l01Factors_0)
def ac_spec_l01Factors : AC := (.seq (.post (.reg [⟨(some 2), .op (.mv (.const (Value.slice none 0 0))), none⟩]) (.kill [2]))
  (.seq (.post (.reg [⟨(some 7), .op (.mv (.tmp 0)), none⟩,
    ⟨(some 8), .call (.func i_spec_l01Partners) [(.tmp 7)], none⟩,
    ⟨(some 3), .op (.mv (.tmp 8)), none⟩]) (.kill [7, 8]))
  (.seq (.post (.reg [⟨(some 9), .op (.lits true 1 0 (Value.string ⟨#[]⟩) []), none⟩,
    ⟨(some 4), .op (.mv (.tmp 9)), none⟩]) (.kill [9]))
  (.seq (.seq (.reg [⟨(some 5), .op (.mv (.const (Value.int .i64 0))), none⟩])
  (.post (.block 0 (.ghost (.ow 4 none 1) (.ghost .nv lo_spec_l01Factors_0))) .nv))
  (.ghost (.kill [0, 3, 5]) (.seq (.post (.reg [⟨(some 33), .op (.mv (.tmp 4)), none⟩,
    ⟨(some 2), .op (.mv (.tmp 33)), none⟩]) (.kill [4, 33]))
  .ret))))))
theorem cf_spec_l01Factors : chkFn Try.prog i_spec_l01Factors ac_spec_l01Factors [.tmp 2] 34 = true := by decide +kernel
def fa_spec_l01Factors : FnA := ⟨ac_spec_l01Factors, [.tmp 2], 34, false, true, [], .any⟩

/-- The checked code of spec UndoTreeEdit. -/
def ac_spec_UndoTreeEdit : AC := (.seq (.post (.reg [⟨(some 3), .op (.box true (.tmp 1)), none⟩,
    ⟨(some 4), .op (.alloc (Value.agg #[Value.int .i64 0, Value.int .i64 0, Value.int .i64 0, Value.string ⟨#[]⟩])), none⟩,
    ⟨(some 5), .op (.mv (.const (Value.int .i64 0))), none⟩]) (.kill [1, 5]))
  (.seq (.seq (.post (.reg [⟨(some 11), .op (.mv (.tmp 0)), none⟩,
    ⟨(some 12), .call (.func i_spec_l06Given) [(.tmp 11), (.tmp 3)], none⟩,
    ⟨(some 6), .op (.mv (.tmp 12)), none⟩]) (.kill [11, 12]))
  (.seq (.post (.reg [⟨(some 13), .op (.mv (.tmp 6)), none⟩,
    ⟨(some 14), .op (.bin .neq (.tmp 13) (.const (Value.int .i64 0))), none⟩]) (.kill [13]))
  (.cond (.tmp 14) (.ghost (.kill [0, 3, 14]) (.seq (.post (.reg [⟨(some 15), .op (.build [Value.int .i64 0, Value.int .i64 0, Value.int .i64 0, Value.string ⟨#[]⟩] []), none⟩,
    ⟨(some 16), .op (.mv (.tmp 6)), none⟩,
    ⟨none, .op (.store 4 (.tmp 4) (.tmp 15)), none⟩,
    ⟨(some 5), .op (.mv (.tmp 16)), none⟩]) (.kill [6, 15, 16]))
  .ret))
  (.ghost (.kill [6, 14]) .skip))))
  (.seq (.seq (.post (.reg [⟨(some 18), .op (.mv (.tmp 0)), none⟩,
    ⟨(some 19), .call (.func i_spec_l06Made) [(.tmp 18), (.tmp 3)], none⟩,
    ⟨(some 17), .op (.mv (.tmp 19)), none⟩,
    ⟨(some 20), .op (.ext (.tmp 17) 0), none⟩,
    ⟨(some 21), .op (.ext (.tmp 17) 1), none⟩,
    ⟨(some 7), .op (.mv (.tmp 20)), none⟩,
    ⟨(some 8), .op (.mv (.tmp 21)), none⟩]) (.kill [7, 17, 18, 19, 20, 21]))
  (.seq (.post (.reg [⟨(some 22), .op (.mv (.tmp 8)), none⟩,
    ⟨(some 23), .op (.bin .neq (.tmp 22) (.const (Value.int .i64 0))), none⟩]) (.kill [22]))
  (.cond (.tmp 23) (.ghost (.kill [0, 3, 23]) (.seq (.post (.reg [⟨(some 24), .op (.build [Value.int .i64 0, Value.int .i64 0, Value.int .i64 0, Value.string ⟨#[]⟩] []), none⟩,
    ⟨(some 25), .op (.mv (.tmp 8)), none⟩,
    ⟨none, .op (.store 4 (.tmp 4) (.tmp 24)), none⟩,
    ⟨(some 5), .op (.mv (.tmp 25)), none⟩]) (.kill [8, 24, 25]))
  .ret))
  (.ghost (.kill [8, 23]) .skip))))
  (.seq (.seq (.post (.reg [⟨(some 26), .op (.faddr (.tmp 3) 0), none⟩,
    ⟨(some 27), .op (.load 1 false (.tmp 26)), none⟩]) (.kill [26]))
  (.block 0 (.seq (.post (.reg [⟨(some 29), .op (.bin .eql (.tmp 27) (.const (Value.int .i64 1))), none⟩,
    ⟨(some 28), .op (.mv (.tmp 29)), none⟩]) (.kill [29]))
  (.cond (.tmp 28) (.ghost (.kill [0, 27, 28]) (.seq (.seq (.post (.reg [⟨(some 30), .op (.faddr (.tmp 3) 3), none⟩,
    ⟨(some 31), .op (.load 1 false (.tmp 30)), none⟩,
    ⟨(some 32), .op (.bin .eql (.tmp 31) (.const (Value.string ⟨#[]⟩))), none⟩]) (.kill [30, 31]))
  (.cond (.tmp 32) (.ghost (.kill [32]) (.seq (.post (.reg [⟨(some 33), .op (.faddr (.tmp 3) 1), none⟩,
    ⟨(some 34), .op (.load 1 false (.tmp 33)), none⟩,
    ⟨(some 35), .op (.build [Value.int .i64 0, Value.int .i64 0, Value.int .i64 0, Value.string ⟨#[]⟩] [(0, 1, (.const (Value.int .i64 1))), (1, 1, (.tmp 34))]), none⟩,
    ⟨none, .op (.store 4 (.tmp 4) (.tmp 35)), none⟩,
    ⟨(some 5), .op (.mv (.const (Value.int .i64 0))), none⟩]) (.kill [3, 33, 34, 35]))
  .ret))
  (.ghost (.kill [32]) .skip)))
  (.seq (.seq (.post (.reg [⟨(some 36), .op (.faddr (.tmp 3) 3), none⟩,
    ⟨(some 37), .op (.load 1 false (.tmp 36)), none⟩,
    ⟨(some 38), .op (.len true (.tmp 37)), none⟩,
    ⟨(some 39), .op (.bin .eql (.tmp 38) (.const (Value.int .i64 1))), none⟩,
    ⟨(some 40), .op (.mv (.tmp 39)), none⟩,
    ⟨(some 41), .op (.faddr (.tmp 3) 3), some (40, false)⟩,
    ⟨(some 42), .op (.load 1 false (.tmp 41)), some (40, false)⟩,
    ⟨(some 43), .call (.func i_spec_l01Factors) [(.tmp 42)], some (40, false)⟩,
    ⟨(some 44), .op (.len false (.tmp 43)), some (40, false)⟩,
    ⟨(some 45), .op (.bin .neq (.tmp 44) (.const (Value.int .i64 1))), some (40, false)⟩,
    ⟨(some 46), .op (.pick (.tmp 40) (.const (Value.bool true)) (.tmp 45)), none⟩]) (.kill [36, 37, 38, 39, 40, 41, 42, 43, 44, 45]))
  (.cond (.tmp 46) (.ghost (.kill [3, 46]) (.seq (.post (.reg [⟨(some 47), .op (.build [Value.int .i64 0, Value.int .i64 0, Value.int .i64 0, Value.string ⟨#[]⟩] []), none⟩,
    ⟨none, .op (.store 4 (.tmp 4) (.tmp 47)), none⟩,
    ⟨(some 5), .op (.mv (.const (Value.int .i64 4))), none⟩]) (.kill [47]))
  .ret))
  (.ghost (.kill [46]) .skip)))
  (.seq (.post (.reg [⟨(some 48), .op (.faddr (.tmp 3) 1), none⟩,
    ⟨(some 49), .op (.load 1 false (.tmp 48)), none⟩,
    ⟨(some 50), .op (.build [Value.int .i64 0, Value.int .i64 0, Value.int .i64 0, Value.string ⟨#[]⟩] [(0, 1, (.const (Value.int .i64 2))), (1, 1, (.tmp 49))]), none⟩,
    ⟨none, .op (.store 4 (.tmp 4) (.tmp 50)), none⟩,
    ⟨(some 5), .op (.mv (.const (Value.int .i64 0))), none⟩]) (.kill [3, 48, 49, 50]))
  .ret))))
  (.ghost (.kill [28]) (.seq (.post (.reg [⟨(some 52), .op (.bin .eql (.tmp 27) (.const (Value.int .i64 4))), none⟩,
    ⟨(some 51), .op (.mv (.tmp 52)), none⟩]) (.kill [27, 52]))
  (.cond (.tmp 51) (.ghost (.kill [0, 51]) (.seq (.post (.reg [⟨(some 53), .op (.faddr (.tmp 3) 1), none⟩,
    ⟨(some 54), .op (.load 1 false (.tmp 53)), none⟩,
    ⟨(some 55), .op (.build [Value.int .i64 0, Value.int .i64 0, Value.int .i64 0, Value.string ⟨#[]⟩] [(0, 1, (.const (Value.int .i64 3))), (1, 1, (.tmp 54))]), none⟩,
    ⟨none, .op (.store 4 (.tmp 4) (.tmp 55)), none⟩,
    ⟨(some 5), .op (.mv (.const (Value.int .i64 0))), none⟩]) (.kill [3, 53, 54, 55]))
  .ret))
  (.ghost (.kill [51]) .skip))))))))
  (.seq (.post (.draw [⟨0, ⟨(some 56), .op (.mv (.tmp 0)), none⟩, []⟩,
    ⟨2, ⟨(some 58), .op (.faddr (.tmp 3) 1), none⟩, []⟩,
    ⟨3, ⟨(some 59), .op (.load 1 false (.tmp 58)), none⟩, []⟩,
    ⟨1, ⟨(some 57), .call (.func i_spec_l01Partners) [(.tmp 56)], none⟩, [3]⟩,
    ⟨4, ⟨(some 60), .op (.iaddrS (.tmp 57) (.tmp 59) 1), none⟩, []⟩,
    ⟨5, ⟨(some 61), .op (.load 1 false (.tmp 60)), none⟩, []⟩,
    ⟨6, ⟨(some 9), .op (.mv (.tmp 61)), none⟩, []⟩]
    [0, 1, 0, 4, 15, 31, 63]) (.kill [56, 57, 58, 59, 60, 61]))
  (.seq (.post (.draw [⟨0, ⟨(some 62), .op (.mv (.tmp 0)), none⟩, []⟩,
    ⟨1, ⟨(some 63), .op (.faddr (.tmp 3) 1), none⟩, []⟩,
    ⟨2, ⟨(some 64), .op (.load 1 false (.tmp 63)), none⟩, []⟩,
    ⟨3, ⟨(some 65), .op (.faddr (.tmp 3) 1), none⟩, []⟩,
    ⟨4, ⟨(some 66), .op (.load 1 false (.tmp 65)), none⟩, []⟩,
    ⟨5, ⟨(some 67), .op (.bin .add (.tmp 66) (.const (Value.int .i64 1))), none⟩, []⟩,
    ⟨6, ⟨(some 68), .op (.slcStr (.tmp 62) (some (.tmp 64)) (some (.tmp 67))), none⟩, []⟩,
    ⟨7, ⟨(some 69), .op (.mv (.tmp 0)), none⟩, []⟩,
    ⟨8, ⟨(some 70), .op (.mv (.tmp 9)), none⟩, []⟩,
    ⟨9, ⟨(some 71), .op (.mv (.tmp 9)), none⟩, []⟩,
    ⟨10, ⟨(some 72), .op (.bin .add (.tmp 71) (.const (Value.int .i64 1))), none⟩, []⟩,
    ⟨11, ⟨(some 73), .op (.slcStr (.tmp 69) (some (.tmp 70)) (some (.tmp 72))), none⟩, []⟩,
    ⟨12, ⟨(some 74), .op (.bin .add (.tmp 68) (.tmp 73)), none⟩, []⟩,
    ⟨13, ⟨(some 10), .op (.mv (.tmp 74)), none⟩, []⟩]
    [0, 0, 2, 0, 8, 24, 63, 0, 0, 0, 512, 1920, 4095, 8191]) (.kill [62, 63, 64, 65, 66, 67, 68, 69, 70, 71, 72, 73, 74]))
  (.seq (.seq (.post (.reg [⟨(some 75), .op (.faddr (.tmp 3) 0), none⟩,
    ⟨(some 76), .op (.load 1 false (.tmp 75)), none⟩]) (.kill [75]))
  (.block 1 (.seq (.post (.reg [⟨(some 78), .op (.bin .eql (.tmp 76) (.const (Value.int .i64 2))), none⟩,
    ⟨(some 77), .op (.mv (.tmp 78)), none⟩]) (.kill [78]))
  (.cond (.tmp 77) (.ghost (.kill [10, 76, 77]) (.seq (.post (.draw [⟨0, ⟨(some 79), .op (.faddr (.tmp 3) 1), none⟩, []⟩,
    ⟨1, ⟨(some 80), .op (.load 1 false (.tmp 79)), none⟩, []⟩,
    ⟨2, ⟨(some 81), .op (.mv (.tmp 0)), none⟩, []⟩,
    ⟨3, ⟨(some 82), .op (.faddr (.tmp 3) 1), none⟩, []⟩,
    ⟨4, ⟨(some 83), .op (.load 1 false (.tmp 82)), none⟩, []⟩,
    ⟨5, ⟨(some 84), .op (.mv (.tmp 9)), none⟩, []⟩,
    ⟨6, ⟨(some 85), .op (.bin .add (.tmp 84) (.const (Value.int .i64 1))), none⟩, []⟩,
    ⟨7, ⟨(some 86), .op (.slcStr (.tmp 81) (some (.tmp 83)) (some (.tmp 85))), none⟩, []⟩,
    ⟨8, ⟨(some 87), .op (.build [Value.int .i64 0, Value.int .i64 0, Value.int .i64 0, Value.string ⟨#[]⟩] [(0, 1, (.const (Value.int .i64 1))), (1, 1, (.tmp 80)), (3, 1, (.tmp 86))]), none⟩, []⟩,
    ⟨9, ⟨none, .op (.store 4 (.tmp 4) (.tmp 87)), none⟩, []⟩,
    ⟨10, ⟨(some 5), .op (.mv (.const (Value.int .i64 0))), none⟩, []⟩]
    [0, 1, 0, 0, 8, 0, 32, 124, 255, 511, 1023]) (.kill [0, 3, 9, 79, 80, 81, 82, 83, 84, 85, 86, 87]))
  .ret))
  (.ghost (.kill [0, 77]) (.seq (.post (.reg [⟨(some 89), .op (.bin .eql (.tmp 76) (.const (Value.int .i64 3))), none⟩,
    ⟨(some 88), .op (.mv (.tmp 89)), none⟩]) (.kill [76, 89]))
  (.cond (.tmp 88) (.ghost (.kill [88]) (.seq (.post (.reg [⟨(some 90), .op (.faddr (.tmp 3) 1), none⟩,
    ⟨(some 91), .op (.load 1 false (.tmp 90)), none⟩,
    ⟨(some 92), .op (.mv (.tmp 9)), none⟩,
    ⟨(some 93), .op (.bin .sub (.tmp 92) (.const (Value.int .i64 1))), none⟩,
    ⟨(some 94), .op (.mv (.tmp 10)), none⟩,
    ⟨(some 95), .op (.build [Value.int .i64 0, Value.int .i64 0, Value.int .i64 0, Value.string ⟨#[]⟩] [(0, 1, (.const (Value.int .i64 4))), (1, 1, (.tmp 91)), (2, 1, (.tmp 93)), (3, 1, (.tmp 94))]), none⟩,
    ⟨none, .op (.store 4 (.tmp 4) (.tmp 95)), none⟩,
    ⟨(some 5), .op (.mv (.const (Value.int .i64 0))), none⟩]) (.kill [3, 9, 10, 90, 91, 92, 93, 94, 95]))
  .ret))
  (.ghost (.kill [9, 88]) .skip))))))))
  (.seq (.post (.reg [⟨(some 96), .op (.faddr (.tmp 3) 1), none⟩,
    ⟨(some 97), .op (.load 1 false (.tmp 96)), none⟩,
    ⟨(some 98), .op (.mv (.tmp 10)), none⟩,
    ⟨(some 99), .op (.build [Value.int .i64 0, Value.int .i64 0, Value.int .i64 0, Value.string ⟨#[]⟩] [(0, 1, (.const (Value.int .i64 5))), (1, 1, (.tmp 97)), (3, 1, (.tmp 98))]), none⟩,
    ⟨none, .op (.store 4 (.tmp 4) (.tmp 99)), none⟩,
    ⟨(some 5), .op (.mv (.const (Value.int .i64 0))), none⟩]) (.kill [3, 10, 96, 97, 98, 99]))
  .ret))))))))
theorem cf_spec_UndoTreeEdit : chkFn Try.prog i_spec_UndoTreeEdit ac_spec_UndoTreeEdit [.cell 4 4 true, .tmp 5] 100 = true := by decide +kernel
def fa_spec_UndoTreeEdit : FnA := ⟨ac_spec_UndoTreeEdit, [.cell 4 4 true, .tmp 5], 100, false, true, [], .any⟩

/-- The checked code of impl EditTree. -/
def ac_impl_EditTree : AC := (.seq (.post (.reg [⟨(some 3), .op (.box true (.tmp 1)), none⟩,
    ⟨(some 4), .op (.mv (.const (Value.string ⟨#[]⟩))), none⟩,
    ⟨(some 5), .op (.mv (.const (Value.int .i64 0))), none⟩]) (.kill [1, 4, 5]))
  (.seq (.seq (.post (.reg [⟨(some 6), .op (.mv (.tmp 0)), none⟩,
    ⟨(some 7), .call (.func i_impl_ValidWord) [(.tmp 6)], none⟩,
    ⟨(some 8), .op (.un .not (.tmp 7)), none⟩,
    ⟨(some 9), .op (.mv (.tmp 8)), none⟩,
    ⟨(some 10), .op (.load 4 true (.tmp 3)), some (9, false)⟩,
    ⟨(some 11), .call (.func i_impl_ValidTreeEdit) [(.tmp 10)], some (9, false)⟩,
    ⟨(some 12), .op (.un .not (.tmp 11)), some (9, false)⟩,
    ⟨(some 13), .op (.pick (.tmp 9) (.const (Value.bool true)) (.tmp 12)), none⟩]) (.kill [6, 7, 8, 9, 10, 11, 12]))
  (.cond (.tmp 13) (.ghost (.kill [0, 3, 13]) (.seq (.reg [⟨(some 4), .op (.mv (.const (Value.string ⟨#[]⟩))), none⟩,
    ⟨(some 5), .op (.mv (.const (Value.int .i64 1))), none⟩])
  .ret))
  (.ghost (.kill [13]) .skip)))
  (.seq (.post (.reg [⟨(some 14), .op (.mv (.tmp 0)), none⟩,
    ⟨(some 15), .op (.load 4 true (.tmp 3)), none⟩,
    ⟨(some 16), .call (.func i_impl_editTree) [(.tmp 14), (.tmp 15)], none⟩,
    ⟨(some 17), .op (.ext (.tmp 16) 0), none⟩,
    ⟨(some 18), .op (.ext (.tmp 16) 1), none⟩,
    ⟨(some 4), .op (.mv (.tmp 17)), none⟩,
    ⟨(some 5), .op (.mv (.tmp 18)), none⟩]) (.kill [0, 3, 14, 15, 16, 17, 18]))
  .ret)))
theorem cf_impl_EditTree : chkFn Try.prog i_impl_EditTree ac_impl_EditTree [.tmp 4, .tmp 5] 19 = true := by decide +kernel
def fa_impl_EditTree : FnA := ⟨ac_impl_EditTree, [.tmp 4, .tmp 5], 19, false, true, [], .any⟩

/-- The checked code of impl factors. -/
def lb_impl_factors_0 : AC := (.post (.seq (.seq (.post (.reg [⟨(some 10), .op (.mv (.tmp 5)), none⟩,
    ⟨(some 11), .op (.mv (.tmp 0)), none⟩,
    ⟨(some 12), .op (.len true (.tmp 11)), none⟩,
    ⟨(some 13), .op (.bin .lss (.tmp 10) (.tmp 12)), none⟩]) (.kill [10, 11, 12]))
  (.cond (.tmp 13) (.ghost (.kill [13]) .skip)
  (.ghost (.kill [0, 4, 5, 13]) (.exit 0))))
  (.block 1 (.seq (.post (.reg [⟨(some 14), .op (.mv (.tmp 5)), none⟩,
    ⟨(some 15), .op (.faddr (.tmp 4) 0), none⟩,
    ⟨(some 16), .op (.load 1 false (.tmp 15)), none⟩,
    ⟨(some 17), .op (.mv (.tmp 5)), none⟩,
    ⟨(some 18), .op (.iaddrS (.tmp 16) (.tmp 17) 1), none⟩,
    ⟨(some 19), .op (.load 1 false (.tmp 18)), none⟩,
    ⟨(some 20), .op (.mx (.tmp 14) (.tmp 19)), none⟩,
    ⟨(some 6), .op (.mv (.tmp 20)), none⟩]) (.kill [14, 15, 16, 17, 18, 19, 20]))
  (.seq (.post (.post (.reg [⟨(some 21), .op (.mv (.tmp 3)), none⟩,
    ⟨(some 22), .op (.mv (.tmp 0)), none⟩,
    ⟨(some 23), .op (.mv (.tmp 5)), none⟩,
    ⟨(some 24), .op (.mv (.tmp 6)), none⟩,
    ⟨(some 25), .op (.bin .add (.tmp 24) (.const (Value.int .i64 1))), none⟩,
    ⟨(some 26), .op (.slcStr (.tmp 22) (some (.tmp 23)) (some (.tmp 25))), none⟩,
    ⟨(some 27), .op (.lits true 1 1 (Value.string ⟨#[]⟩) [(0, (.tmp 26))]), none⟩,
    ⟨(some 28), .op (.append (.tmp 21) (.tmp 27) 1 16), none⟩,
    ⟨(some 3), .op (.mv (.tmp 28)), none⟩]) (.kill [5, 21, 22, 23, 24, 25, 26, 27, 28])) .nv)
  (.post (.reg [⟨(some 29), .op (.mv (.tmp 6)), none⟩,
    ⟨(some 30), .op (.bin .add (.tmp 29) (.const (Value.int .i64 1))), none⟩,
    ⟨(some 5), .op (.mv (.tmp 30)), none⟩]) (.kill [6, 29, 30])))))) .nv)
def lo_impl_factors_0 : AC := (.loop lb_impl_factors_0)
def ac_impl_factors : AC := (.seq (.post (.reg [⟨(some 2), .op (.mv (.const (Value.slice none 0 0))), none⟩]) (.kill [2]))
  (.seq (.post (.reg [⟨(some 7), .op (.lits true 1 0 (Value.string ⟨#[]⟩) []), none⟩,
    ⟨(some 8), .op (.mv (.tmp 0)), none⟩,
    ⟨(some 9), .call (.func i_impl_match) [(.tmp 8)], none⟩,
    ⟨(some 4), .op (.alloc (Value.agg #[Value.slice none 0 0, Value.slice none 0 0, Value.slice none 0 0, Value.slice none 0 0, Value.slice none 0 0])), none⟩,
    ⟨(some 3), .op (.mv (.tmp 7)), none⟩,
    ⟨none, .op (.store 5 (.tmp 4) (.tmp 9)), none⟩]) (.kill [7, 8, 9]))
  (.seq (.seq (.reg [⟨(some 5), .op (.mv (.const (Value.int .i64 0))), none⟩])
  (.post (.block 0 (.ghost (.ow 3 none 1) (.ghost .nv lo_impl_factors_0))) .nv))
  (.ghost (.kill [0, 4, 5]) (.seq (.post (.reg [⟨(some 31), .op (.mv (.tmp 3)), none⟩,
    ⟨(some 2), .op (.mv (.tmp 31)), none⟩]) (.kill [3, 31]))
  .ret)))))
theorem cf_impl_factors : chkFn Try.prog i_impl_factors ac_impl_factors [.tmp 2] 32 = true := by decide +kernel
def fa_impl_factors : FnA := ⟨ac_impl_factors, [.tmp 2], 32, false, true, [], .any⟩

/-- The checked code of impl UndoTreeEdit. -/
def ac_impl_UndoTreeEdit : AC := (.seq (.post (.reg [⟨(some 3), .op (.box true (.tmp 1)), none⟩,
    ⟨(some 4), .op (.alloc (Value.agg #[Value.int .i64 0, Value.int .i64 0, Value.int .i64 0, Value.string ⟨#[]⟩])), none⟩,
    ⟨(some 5), .op (.mv (.const (Value.int .i64 0))), none⟩]) (.kill [1, 5]))
  (.seq (.seq (.post (.reg [⟨(some 13), .op (.mv (.tmp 0)), none⟩,
    ⟨(some 14), .op (.load 4 true (.tmp 3)), none⟩,
    ⟨(some 15), .call (.func i_impl_EditTree) [(.tmp 13), (.tmp 14)], none⟩,
    ⟨(some 12), .op (.mv (.tmp 15)), none⟩,
    ⟨(some 16), .op (.ext (.tmp 12) 0), none⟩,
    ⟨(some 17), .op (.ext (.tmp 12) 1), none⟩,
    ⟨(some 6), .op (.mv (.tmp 16)), none⟩,
    ⟨(some 7), .op (.mv (.tmp 17)), none⟩]) (.kill [6, 12, 13, 14, 15, 16, 17]))
  (.seq (.post (.reg [⟨(some 18), .op (.mv (.tmp 7)), none⟩,
    ⟨(some 19), .op (.bin .neq (.tmp 18) (.const (Value.int .i64 0))), none⟩]) (.kill [18]))
  (.cond (.tmp 19) (.ghost (.kill [0, 3, 19]) (.seq (.post (.reg [⟨(some 20), .op (.build [Value.int .i64 0, Value.int .i64 0, Value.int .i64 0, Value.string ⟨#[]⟩] []), none⟩,
    ⟨(some 21), .op (.mv (.tmp 7)), none⟩,
    ⟨none, .op (.store 4 (.tmp 4) (.tmp 20)), none⟩,
    ⟨(some 5), .op (.mv (.tmp 21)), none⟩]) (.kill [7, 20, 21]))
  .ret))
  (.ghost (.kill [7, 19]) .skip))))
  (.seq (.seq (.post (.reg [⟨(some 22), .op (.faddr (.tmp 3) 0), none⟩,
    ⟨(some 23), .op (.load 1 false (.tmp 22)), none⟩]) (.kill [22]))
  (.block 0 (.seq (.post (.reg [⟨(some 25), .op (.bin .eql (.tmp 23) (.const (Value.int .i64 1))), none⟩,
    ⟨(some 24), .op (.mv (.tmp 25)), none⟩]) (.kill [25]))
  (.cond (.tmp 24) (.ghost (.kill [0, 23, 24]) (.seq (.seq (.post (.reg [⟨(some 26), .op (.faddr (.tmp 3) 3), none⟩,
    ⟨(some 27), .op (.load 1 false (.tmp 26)), none⟩,
    ⟨(some 28), .call (.func i_impl_factors) [(.tmp 27)], none⟩,
    ⟨(some 8), .op (.mv (.tmp 28)), none⟩]) (.kill [26, 27, 28]))
  (.block 1 (.seq (.post (.reg [⟨(some 30), .op (.mv (.tmp 8)), none⟩,
    ⟨(some 31), .op (.len false (.tmp 30)), none⟩,
    ⟨(some 32), .op (.bin .eql (.tmp 31) (.const (Value.int .i64 0))), none⟩,
    ⟨(some 29), .op (.mv (.tmp 32)), none⟩]) (.kill [30, 31, 32]))
  (.cond (.tmp 29) (.ghost (.kill [8, 29]) (.seq (.post (.reg [⟨(some 33), .op (.faddr (.tmp 3) 1), none⟩,
    ⟨(some 34), .op (.load 1 false (.tmp 33)), none⟩,
    ⟨(some 35), .op (.build [Value.int .i64 0, Value.int .i64 0, Value.int .i64 0, Value.string ⟨#[]⟩] [(0, 1, (.const (Value.int .i64 1))), (1, 1, (.tmp 34))]), none⟩,
    ⟨none, .op (.store 4 (.tmp 4) (.tmp 35)), none⟩,
    ⟨(some 5), .op (.mv (.const (Value.int .i64 0))), none⟩]) (.kill [3, 33, 34, 35]))
  .ret))
  (.ghost (.kill [29]) (.seq (.post (.reg [⟨(some 37), .op (.mv (.tmp 8)), none⟩,
    ⟨(some 38), .op (.len false (.tmp 37)), none⟩,
    ⟨(some 39), .op (.bin .eql (.tmp 38) (.const (Value.int .i64 1))), none⟩,
    ⟨(some 40), .op (.mv (.tmp 39)), none⟩,
    ⟨(some 41), .op (.faddr (.tmp 3) 3), some (40, true)⟩,
    ⟨(some 42), .op (.load 1 false (.tmp 41)), some (40, true)⟩,
    ⟨(some 43), .op (.idxStr (.tmp 42) (.const (Value.int .i64 0))), some (40, true)⟩,
    ⟨(some 44), .call (.func i_impl_isCall) [(.tmp 43)], some (40, true)⟩,
    ⟨(some 45), .op (.pick (.tmp 40) (.tmp 44) (.const (Value.bool false))), none⟩,
    ⟨(some 36), .op (.mv (.tmp 45)), none⟩]) (.kill [8, 37, 38, 39, 40, 41, 42, 43, 44, 45]))
  (.cond (.tmp 36) (.ghost (.kill [36]) (.seq (.post (.reg [⟨(some 46), .op (.faddr (.tmp 3) 1), none⟩,
    ⟨(some 47), .op (.load 1 false (.tmp 46)), none⟩,
    ⟨(some 48), .op (.build [Value.int .i64 0, Value.int .i64 0, Value.int .i64 0, Value.string ⟨#[]⟩] [(0, 1, (.const (Value.int .i64 2))), (1, 1, (.tmp 47))]), none⟩,
    ⟨none, .op (.store 4 (.tmp 4) (.tmp 48)), none⟩,
    ⟨(some 5), .op (.mv (.const (Value.int .i64 0))), none⟩]) (.kill [3, 46, 47, 48]))
  .ret))
  (.ghost (.kill [3, 36]) .skip))))))))
  (.seq (.post (.reg [⟨(some 49), .op (.build [Value.int .i64 0, Value.int .i64 0, Value.int .i64 0, Value.string ⟨#[]⟩] []), none⟩,
    ⟨none, .op (.store 4 (.tmp 4) (.tmp 49)), none⟩,
    ⟨(some 5), .op (.mv (.const (Value.int .i64 4))), none⟩]) (.kill [49]))
  .ret)))
  (.ghost (.kill [24]) (.seq (.post (.reg [⟨(some 51), .op (.bin .eql (.tmp 23) (.const (Value.int .i64 4))), none⟩,
    ⟨(some 50), .op (.mv (.tmp 51)), none⟩]) (.kill [23, 51]))
  (.cond (.tmp 50) (.ghost (.kill [0, 50]) (.seq (.post (.reg [⟨(some 52), .op (.faddr (.tmp 3) 1), none⟩,
    ⟨(some 53), .op (.load 1 false (.tmp 52)), none⟩,
    ⟨(some 54), .op (.build [Value.int .i64 0, Value.int .i64 0, Value.int .i64 0, Value.string ⟨#[]⟩] [(0, 1, (.const (Value.int .i64 3))), (1, 1, (.tmp 53))]), none⟩,
    ⟨none, .op (.store 4 (.tmp 4) (.tmp 54)), none⟩,
    ⟨(some 5), .op (.mv (.const (Value.int .i64 0))), none⟩]) (.kill [3, 52, 53, 54]))
  .ret))
  (.ghost (.kill [50]) .skip))))))))
  (.seq (.post (.reg [⟨(some 56), .op (.mv (.tmp 0)), none⟩,
    ⟨(some 57), .op (.faddr (.tmp 3) 1), none⟩,
    ⟨(some 58), .op (.load 1 false (.tmp 57)), none⟩,
    ⟨(some 59), .call (.func i_impl_bodyAt) [(.tmp 56), (.tmp 58)], none⟩,
    ⟨(some 55), .op (.mv (.tmp 59)), none⟩,
    ⟨(some 60), .op (.ext (.tmp 55) 0), none⟩,
    ⟨(some 61), .op (.ext (.tmp 55) 1), none⟩,
    ⟨(some 9), .op (.mv (.tmp 60)), none⟩,
    ⟨(some 10), .op (.mv (.tmp 61)), none⟩]) (.kill [10, 55, 56, 57, 58, 59, 60, 61]))
  (.seq (.post (.draw [⟨0, ⟨(some 62), .op (.mv (.tmp 0)), none⟩, []⟩,
    ⟨1, ⟨(some 63), .op (.faddr (.tmp 3) 1), none⟩, []⟩,
    ⟨2, ⟨(some 64), .op (.load 1 false (.tmp 63)), none⟩, []⟩,
    ⟨3, ⟨(some 65), .op (.faddr (.tmp 3) 1), none⟩, []⟩,
    ⟨4, ⟨(some 66), .op (.load 1 false (.tmp 65)), none⟩, []⟩,
    ⟨5, ⟨(some 67), .op (.bin .add (.tmp 66) (.const (Value.int .i64 1))), none⟩, []⟩,
    ⟨6, ⟨(some 68), .op (.slcStr (.tmp 62) (some (.tmp 64)) (some (.tmp 67))), none⟩, []⟩,
    ⟨7, ⟨(some 69), .op (.mv (.tmp 0)), none⟩, []⟩,
    ⟨8, ⟨(some 70), .op (.mv (.tmp 9)), none⟩, []⟩,
    ⟨9, ⟨(some 71), .op (.mv (.tmp 9)), none⟩, []⟩,
    ⟨10, ⟨(some 72), .op (.bin .add (.tmp 71) (.const (Value.int .i64 1))), none⟩, []⟩,
    ⟨11, ⟨(some 73), .op (.slcStr (.tmp 69) (some (.tmp 70)) (some (.tmp 72))), none⟩, []⟩,
    ⟨12, ⟨(some 74), .op (.bin .add (.tmp 68) (.tmp 73)), none⟩, []⟩,
    ⟨13, ⟨(some 11), .op (.mv (.tmp 74)), none⟩, []⟩]
    [0, 0, 2, 0, 8, 24, 63, 0, 0, 0, 512, 1920, 4095, 8191]) (.kill [62, 63, 64, 65, 66, 67, 68, 69, 70, 71, 72, 73, 74]))
  (.seq (.seq (.post (.reg [⟨(some 75), .op (.faddr (.tmp 3) 0), none⟩,
    ⟨(some 76), .op (.load 1 false (.tmp 75)), none⟩]) (.kill [75]))
  (.block 2 (.seq (.post (.reg [⟨(some 78), .op (.bin .eql (.tmp 76) (.const (Value.int .i64 2))), none⟩,
    ⟨(some 77), .op (.mv (.tmp 78)), none⟩]) (.kill [78]))
  (.cond (.tmp 77) (.ghost (.kill [11, 76, 77]) (.seq (.post (.draw [⟨0, ⟨(some 79), .op (.faddr (.tmp 3) 1), none⟩, []⟩,
    ⟨1, ⟨(some 80), .op (.load 1 false (.tmp 79)), none⟩, []⟩,
    ⟨2, ⟨(some 81), .op (.mv (.tmp 0)), none⟩, []⟩,
    ⟨3, ⟨(some 82), .op (.faddr (.tmp 3) 1), none⟩, []⟩,
    ⟨4, ⟨(some 83), .op (.load 1 false (.tmp 82)), none⟩, []⟩,
    ⟨5, ⟨(some 84), .op (.mv (.tmp 9)), none⟩, []⟩,
    ⟨6, ⟨(some 85), .op (.bin .add (.tmp 84) (.const (Value.int .i64 1))), none⟩, []⟩,
    ⟨7, ⟨(some 86), .op (.slcStr (.tmp 81) (some (.tmp 83)) (some (.tmp 85))), none⟩, []⟩,
    ⟨8, ⟨(some 87), .op (.build [Value.int .i64 0, Value.int .i64 0, Value.int .i64 0, Value.string ⟨#[]⟩] [(0, 1, (.const (Value.int .i64 1))), (1, 1, (.tmp 80)), (3, 1, (.tmp 86))]), none⟩, []⟩,
    ⟨9, ⟨none, .op (.store 4 (.tmp 4) (.tmp 87)), none⟩, []⟩,
    ⟨10, ⟨(some 5), .op (.mv (.const (Value.int .i64 0))), none⟩, []⟩]
    [0, 1, 0, 0, 8, 0, 32, 124, 255, 511, 1023]) (.kill [0, 3, 9, 79, 80, 81, 82, 83, 84, 85, 86, 87]))
  .ret))
  (.ghost (.kill [0, 77]) (.seq (.post (.reg [⟨(some 89), .op (.bin .eql (.tmp 76) (.const (Value.int .i64 3))), none⟩,
    ⟨(some 88), .op (.mv (.tmp 89)), none⟩]) (.kill [76, 89]))
  (.cond (.tmp 88) (.ghost (.kill [88]) (.seq (.post (.reg [⟨(some 90), .op (.faddr (.tmp 3) 1), none⟩,
    ⟨(some 91), .op (.load 1 false (.tmp 90)), none⟩,
    ⟨(some 92), .op (.mv (.tmp 9)), none⟩,
    ⟨(some 93), .op (.bin .sub (.tmp 92) (.const (Value.int .i64 1))), none⟩,
    ⟨(some 94), .op (.mv (.tmp 11)), none⟩,
    ⟨(some 95), .op (.build [Value.int .i64 0, Value.int .i64 0, Value.int .i64 0, Value.string ⟨#[]⟩] [(0, 1, (.const (Value.int .i64 4))), (1, 1, (.tmp 91)), (2, 1, (.tmp 93)), (3, 1, (.tmp 94))]), none⟩,
    ⟨none, .op (.store 4 (.tmp 4) (.tmp 95)), none⟩,
    ⟨(some 5), .op (.mv (.const (Value.int .i64 0))), none⟩]) (.kill [3, 9, 11, 90, 91, 92, 93, 94, 95]))
  .ret))
  (.ghost (.kill [9, 88]) .skip))))))))
  (.seq (.post (.reg [⟨(some 96), .op (.faddr (.tmp 3) 1), none⟩,
    ⟨(some 97), .op (.load 1 false (.tmp 96)), none⟩,
    ⟨(some 98), .op (.mv (.tmp 11)), none⟩,
    ⟨(some 99), .op (.build [Value.int .i64 0, Value.int .i64 0, Value.int .i64 0, Value.string ⟨#[]⟩] [(0, 1, (.const (Value.int .i64 5))), (1, 1, (.tmp 97)), (3, 1, (.tmp 98))]), none⟩,
    ⟨none, .op (.store 4 (.tmp 4) (.tmp 99)), none⟩,
    ⟨(some 5), .op (.mv (.const (Value.int .i64 0))), none⟩]) (.kill [3, 11, 96, 97, 98, 99]))
  .ret)))))))
theorem cf_impl_UndoTreeEdit : chkFn Try.prog i_impl_UndoTreeEdit ac_impl_UndoTreeEdit [.cell 4 4 true, .tmp 5] 100 = true := by decide +kernel
def fa_impl_UndoTreeEdit : FnA := ⟨ac_impl_UndoTreeEdit, [.cell 4 4 true, .tmp 5], 100, false, true, [], .any⟩

/-- The checked code of laws FnExactUndoTreeEdit. -/
def ac_laws_FnExactUndoTreeEdit : AC := (.seq (.post (.reg [⟨(some 3), .op (.box true (.tmp 1)), none⟩,
    ⟨(some 4), .op (.mv (.const (Value.bool false))), none⟩]) (.kill [1, 4]))
  (.seq (.seq (.post (.reg [⟨(some 10), .op (.mv (.tmp 0)), none⟩,
    ⟨(some 11), .op (.len true (.tmp 10)), none⟩,
    ⟨(some 12), .op (.bin .gtr (.tmp 11) (.const (Value.int .i64 1048576))), none⟩]) (.kill [10, 11]))
  (.cond (.tmp 12) (.ghost (.kill [0, 3, 12]) (.seq (.reg [⟨(some 4), .op (.mv (.const (Value.bool true))), none⟩])
  .ret))
  (.ghost (.kill [12]) .skip)))
  (.seq (.reg [⟨(some 5), .op (.mv (.const (Value.int .i64 1048576))), none⟩])
  (.seq (.post (.reg [⟨(some 13), .op (.load 4 true (.tmp 3)), none⟩,
    ⟨(some 14), .op (.mv (.tmp 5)), none⟩,
    ⟨(some 15), .call (.func i_laws_szTreeEdit) [(.tmp 13), (.tmp 14)], none⟩,
    ⟨(some 5), .op (.mv (.tmp 15)), none⟩]) (.kill [13, 14, 15]))
  (.seq (.seq (.post (.reg [⟨(some 16), .op (.mv (.tmp 5)), none⟩,
    ⟨(some 17), .op (.bin .lss (.tmp 16) (.const (Value.int .i64 0))), none⟩]) (.kill [5, 16]))
  (.cond (.tmp 17) (.ghost (.kill [0, 3, 17]) (.seq (.reg [⟨(some 4), .op (.mv (.const (Value.bool true))), none⟩])
  .ret))
  (.ghost (.kill [17]) .skip)))
  (.seq (.post (.reg [⟨(some 19), .op (.mv (.tmp 0)), none⟩,
    ⟨(some 20), .op (.load 4 true (.tmp 3)), none⟩,
    ⟨(some 21), .call (.func i_laws_toTreeEdit) [(.tmp 20)], none⟩,
    ⟨(some 22), .call (.func i_spec_UndoTreeEdit) [(.tmp 19), (.tmp 21)], none⟩,
    ⟨(some 18), .op (.mv (.tmp 22)), none⟩,
    ⟨(some 23), .op (.ext (.tmp 18) 0), none⟩,
    ⟨(some 24), .op (.ext (.tmp 18) 1), none⟩,
    ⟨(some 6), .op (.alloc (Value.agg #[Value.int .i64 0, Value.int .i64 0, Value.int .i64 0, Value.string ⟨#[]⟩])), none⟩,
    ⟨none, .op (.store 4 (.tmp 6) (.tmp 23)), none⟩,
    ⟨(some 7), .op (.mv (.tmp 24)), none⟩]) (.kill [18, 19, 20, 21, 22, 23, 24]))
  (.seq (.post (.reg [⟨(some 26), .op (.mv (.tmp 0)), none⟩,
    ⟨(some 27), .op (.load 4 true (.tmp 3)), none⟩,
    ⟨(some 28), .call (.func i_laws_toTreeEdit) [(.tmp 27)], none⟩,
    ⟨(some 29), .call (.func i_impl_UndoTreeEdit) [(.tmp 26), (.tmp 28)], none⟩,
    ⟨(some 25), .op (.mv (.tmp 29)), none⟩,
    ⟨(some 30), .op (.ext (.tmp 25) 0), none⟩,
    ⟨(some 31), .op (.ext (.tmp 25) 1), none⟩,
    ⟨(some 8), .op (.alloc (Value.agg #[Value.int .i64 0, Value.int .i64 0, Value.int .i64 0, Value.string ⟨#[]⟩])), none⟩,
    ⟨none, .op (.store 4 (.tmp 8) (.tmp 30)), none⟩,
    ⟨(some 9), .op (.mv (.tmp 31)), none⟩]) (.kill [0, 3, 25, 26, 27, 28, 29, 30, 31]))
  (.seq (.seq (.post (.reg [⟨(some 32), .op (.load 4 true (.tmp 8)), none⟩,
    ⟨(some 33), .op (.load 4 true (.tmp 6)), none⟩,
    ⟨(some 34), .call (.func i_laws_eqTreeEdit) [(.tmp 32), (.tmp 33)], none⟩,
    ⟨(some 35), .op (.un .not (.tmp 34)), none⟩,
    ⟨(some 36), .op (.mv (.tmp 35)), none⟩,
    ⟨(some 37), .op (.mv (.tmp 9)), some (36, false)⟩,
    ⟨(some 38), .op (.mv (.tmp 7)), some (36, false)⟩,
    ⟨(some 39), .op (.bin .neq (.tmp 37) (.tmp 38)), some (36, false)⟩,
    ⟨(some 40), .op (.pick (.tmp 36) (.const (Value.bool true)) (.tmp 39)), none⟩]) (.kill [6, 7, 8, 9, 32, 33, 34, 35, 36, 37, 38, 39]))
  (.cond (.tmp 40) (.ghost (.kill [40]) (.seq (.reg [⟨(some 4), .op (.mv (.const (Value.bool false))), none⟩])
  .ret))
  (.ghost (.kill [40]) .skip)))
  (.seq (.reg [⟨(some 4), .op (.mv (.const (Value.bool true))), none⟩])
  .ret)))))))))
theorem cf_laws_FnExactUndoTreeEdit : chkFn Try.prog i_laws_FnExactUndoTreeEdit ac_laws_FnExactUndoTreeEdit [.tmp 4] 41 = true := by decide +kernel
def fa_laws_FnExactUndoTreeEdit : FnA := ⟨ac_laws_FnExactUndoTreeEdit, [.tmp 4], 41, false, true, [], .any⟩

/-- The checked code of spec l06Has. -/
def ac_spec_l06Has : AC := (.seq (.post (.reg [⟨(some 6), .op (.mv (.const (Value.bool false))), none⟩]) (.kill [6]))
  (.seq (.post (.reg [⟨(some 10), .op (.mv (.tmp 0)), none⟩,
    ⟨(some 11), .call (.func i_spec_l01Pending) [(.tmp 10)], none⟩,
    ⟨(some 9), .op (.mv (.tmp 11)), none⟩,
    ⟨(some 12), .op (.ext (.tmp 9) 0), none⟩,
    ⟨(some 13), .op (.ext (.tmp 9) 1), none⟩,
    ⟨(some 7), .op (.mv (.tmp 12)), none⟩,
    ⟨(some 8), .op (.mv (.tmp 13)), none⟩]) (.kill [0, 9, 10, 11, 12, 13]))
  (.seq (.post (.reg [⟨(some 14), .op (.mv (.tmp 7)), none⟩,
    ⟨(some 15), .op (.mv (.tmp 1)), none⟩,
    ⟨(some 16), .op (.bin .eql (.tmp 14) (.tmp 15)), none⟩,
    ⟨(some 17), .op (.mv (.tmp 16)), none⟩,
    ⟨(some 18), .op (.mv (.tmp 8)), some (17, true)⟩,
    ⟨(some 19), .op (.mv (.tmp 2)), some (17, true)⟩,
    ⟨(some 20), .op (.bin .eql (.tmp 18) (.tmp 19)), some (17, true)⟩,
    ⟨(some 21), .op (.pick (.tmp 17) (.tmp 20) (.const (Value.bool false))), none⟩,
    ⟨(some 6), .op (.mv (.tmp 21)), none⟩]) (.kill [1, 2, 7, 8, 14, 15, 16, 17, 18, 19, 20, 21]))
  .ret)))
theorem cf_spec_l06Has : chkFn Try.prog i_spec_l06Has ac_spec_l06Has [.tmp 6] 22 = true := by decide +kernel
def fa_spec_l06Has : FnA := ⟨ac_spec_l06Has, [.tmp 6], 22, false, true, [], .any⟩

/-- The checked code of spec l06Structural. -/
def lb_spec_l06Structural_0 : AC := (.seq (.seq (.post (.reg [⟨(some 47), .op (.mv (.tmp 5)), none⟩,
    ⟨(some 48), .op (.mv (.tmp 0)), none⟩,
    ⟨(some 49), .op (.nilc (.tmp 48)), none⟩,
    ⟨(some 50), .op (.faddr (.tmp 49) 3), none⟩,
    ⟨(some 51), .op (.load 1 false (.tmp 50)), none⟩,
    ⟨(some 52), .op (.mv (.tmp 3)), none⟩,
    ⟨(some 53), .op (.iaddrS (.tmp 51) (.tmp 52) 1), none⟩,
    ⟨(some 54), .op (.load 1 false (.tmp 53)), none⟩,
    ⟨(some 55), .op (.mv (.tmp 4)), none⟩,
    ⟨(some 56), .op (.iaddrS (.tmp 54) (.tmp 55) 1), none⟩,
    ⟨(some 57), .op (.load 1 false (.tmp 56)), none⟩,
    ⟨(some 58), .op (.len false (.tmp 57)), none⟩,
    ⟨(some 59), .op (.bin .lss (.tmp 47) (.tmp 58)), none⟩]) (.kill [47, 48, 49, 50, 51, 52, 53, 54, 55, 56, 57, 58]))
  (.cond (.tmp 59) (.ghost (.kill [59]) .skip)
  (.ghost (.kill [5, 59]) (.exit 4))))
  (.seq (.block 5 (.seq (.post (.reg [⟨(some 62), .op (.mv (.tmp 0)), none⟩,
    ⟨(some 63), .op (.nilc (.tmp 62)), none⟩,
    ⟨(some 64), .op (.faddr (.tmp 63) 3), none⟩,
    ⟨(some 65), .op (.load 1 false (.tmp 64)), none⟩,
    ⟨(some 66), .op (.mv (.tmp 3)), none⟩,
    ⟨(some 67), .op (.iaddrS (.tmp 65) (.tmp 66) 1), none⟩,
    ⟨(some 68), .op (.load 1 false (.tmp 67)), none⟩,
    ⟨(some 69), .op (.mv (.tmp 4)), none⟩,
    ⟨(some 70), .op (.iaddrS (.tmp 68) (.tmp 69) 1), none⟩,
    ⟨(some 71), .op (.load 1 false (.tmp 70)), none⟩,
    ⟨(some 72), .op (.mv (.tmp 5)), none⟩,
    ⟨(some 73), .op (.iaddrS (.tmp 71) (.tmp 72) 2), none⟩,
    ⟨(some 74), .op (.faddr (.tmp 73) 1), none⟩,
    ⟨(some 75), .op (.load 1 false (.tmp 74)), none⟩,
    ⟨(some 76), .call (.func i_spec_l06Has) [(.tmp 75), (.const (Value.int .i64 1)), (.const (Value.int .i64 0))], none⟩,
    ⟨(some 77), .op (.un .not (.tmp 76)), none⟩]) (.kill [62, 63, 64, 65, 66, 67, 68, 69, 70, 71, 72, 73, 74, 75, 76]))
  (.cond (.tmp 77) (.ghost (.kill [0, 3, 4, 5, 77]) (.seq (.reg [⟨(some 2), .op (.mv (.const (Value.bool false))), none⟩])
  .ret))
  (.ghost (.kill [77]) .skip))))
  (.post (.reg [⟨(some 60), .op (.mv (.tmp 5)), none⟩,
    ⟨(some 61), .op (.bin .add (.tmp 60) (.const (Value.int .i64 1))), none⟩,
    ⟨(some 5), .op (.mv (.tmp 61)), none⟩]) (.kill [60, 61]))))
def lo_spec_l06Structural_0 : AC := (.loop lb_spec_l06Structural_0)
def lb_spec_l06Structural_1 : AC := (.seq (.seq (.post (.reg [⟨(some 15), .op (.mv (.tmp 4)), none⟩,
    ⟨(some 16), .op (.bin .lss (.tmp 15) (.const (Value.int .i64 2))), none⟩]) (.kill [15]))
  (.cond (.tmp 16) (.ghost (.kill [16]) .skip)
  (.ghost (.kill [4, 16]) (.exit 2))))
  (.seq (.block 3 (.seq (.seq (.post (.reg [⟨(some 19), .op (.mv (.tmp 0)), none⟩,
    ⟨(some 20), .op (.nilc (.tmp 19)), none⟩,
    ⟨(some 21), .op (.faddr (.tmp 20) 2), none⟩,
    ⟨(some 22), .op (.load 1 false (.tmp 21)), none⟩,
    ⟨(some 23), .op (.mv (.tmp 3)), none⟩,
    ⟨(some 24), .op (.iaddrS (.tmp 22) (.tmp 23) 1), none⟩,
    ⟨(some 25), .op (.load 1 false (.tmp 24)), none⟩,
    ⟨(some 26), .op (.mv (.tmp 4)), none⟩,
    ⟨(some 27), .op (.iaddrS (.tmp 25) (.tmp 26) 3), none⟩,
    ⟨(some 28), .op (.faddr (.tmp 27) 2), none⟩,
    ⟨(some 29), .op (.load 1 false (.tmp 28)), none⟩,
    ⟨(some 30), .call (.func i_spec_l06Has) [(.tmp 29), (.const (Value.int .i64 0)), (.const (Value.int .i64 1))], none⟩,
    ⟨(some 31), .op (.un .not (.tmp 30)), none⟩,
    ⟨(some 32), .op (.mv (.tmp 31)), none⟩,
    ⟨(some 33), .op (.mv (.tmp 0)), some (32, false)⟩,
    ⟨(some 34), .op (.nilc (.tmp 33)), some (32, false)⟩,
    ⟨(some 35), .op (.faddr (.tmp 34) 4), some (32, false)⟩,
    ⟨(some 36), .op (.load 1 false (.tmp 35)), some (32, false)⟩,
    ⟨(some 37), .op (.mv (.tmp 3)), some (32, false)⟩,
    ⟨(some 38), .op (.iaddrS (.tmp 36) (.tmp 37) 1), some (32, false)⟩,
    ⟨(some 39), .op (.load 1 false (.tmp 38)), some (32, false)⟩,
    ⟨(some 40), .op (.mv (.tmp 4)), some (32, false)⟩,
    ⟨(some 41), .op (.iaddrS (.tmp 39) (.tmp 40) 2), some (32, false)⟩,
    ⟨(some 42), .op (.faddr (.tmp 41) 1), some (32, false)⟩,
    ⟨(some 43), .op (.load 1 false (.tmp 42)), some (32, false)⟩,
    ⟨(some 44), .call (.func i_spec_l06Has) [(.tmp 43), (.const (Value.int .i64 0)), (.const (Value.int .i64 0))], some (32, false)⟩,
    ⟨(some 45), .op (.un .not (.tmp 44)), some (32, false)⟩,
    ⟨(some 46), .op (.pick (.tmp 32) (.const (Value.bool true)) (.tmp 45)), none⟩]) (.kill [19, 20, 21, 22, 23, 24, 25, 26, 27, 28, 29, 30, 31, 32, 33, 34, 35, 36, 37, 38, 39, 40, 41, 42, 43, 44, 45]))
  (.cond (.tmp 46) (.ghost (.kill [0, 3, 4, 46]) (.seq (.reg [⟨(some 2), .op (.mv (.const (Value.bool false))), none⟩])
  .ret))
  (.ghost (.kill [46]) .skip)))
  (.seq (.reg [⟨(some 5), .op (.mv (.const (Value.int .i64 0))), none⟩])
  (.block 4 lo_spec_l06Structural_0))))
  (.ghost (.kill [5]) (.post (.reg [⟨(some 17), .op (.mv (.tmp 4)), none⟩,
    ⟨(some 18), .op (.bin .add (.tmp 17) (.const (Value.int .i64 1))), none⟩,
    ⟨(some 4), .op (.mv (.tmp 18)), none⟩]) (.kill [17, 18])))))
def lo_spec_l06Structural_1 : AC := (.loop lb_spec_l06Structural_1)
def lb_spec_l06Structural_2 : AC := (.seq (.seq (.post (.reg [⟨(some 6), .op (.mv (.tmp 3)), none⟩,
    ⟨(some 7), .op (.mv (.tmp 0)), none⟩,
    ⟨(some 8), .op (.nilc (.tmp 7)), none⟩,
    ⟨(some 9), .op (.faddr (.tmp 8) 2), none⟩,
    ⟨(some 10), .op (.load 1 false (.tmp 9)), none⟩,
    ⟨(some 11), .op (.len false (.tmp 10)), none⟩,
    ⟨(some 12), .op (.bin .lss (.tmp 6) (.tmp 11)), none⟩]) (.kill [6, 7, 8, 9, 10, 11]))
  (.cond (.tmp 12) (.ghost (.kill [12]) .skip)
  (.ghost (.kill [0, 3, 12]) (.exit 0))))
  (.seq (.block 1 (.seq (.reg [⟨(some 4), .op (.mv (.const (Value.int .i64 0))), none⟩])
  (.block 2 lo_spec_l06Structural_1)))
  (.ghost (.kill [4]) (.post (.reg [⟨(some 13), .op (.mv (.tmp 3)), none⟩,
    ⟨(some 14), .op (.bin .add (.tmp 13) (.const (Value.int .i64 1))), none⟩,
    ⟨(some 3), .op (.mv (.tmp 14)), none⟩]) (.kill [13, 14])))))
def lo_spec_l06Structural_2 : AC := (.loop lb_spec_l06Structural_2)
def ac_spec_l06Structural : AC := (.seq (.post (.reg [⟨(some 2), .op (.mv (.const (Value.bool false))), none⟩]) (.kill [2]))
  (.seq (.seq (.reg [⟨(some 3), .op (.mv (.const (Value.int .i64 0))), none⟩])
  (.block 0 lo_spec_l06Structural_2))
  (.ghost (.kill [0, 3]) (.seq (.reg [⟨(some 2), .op (.mv (.const (Value.bool true))), none⟩])
  .ret))))
theorem cf_spec_l06Structural : chkFn Try.prog i_spec_l06Structural ac_spec_l06Structural [.tmp 2] 78 = true := by decide +kernel
def fa_spec_l06Structural : FnA := ⟨ac_spec_l06Structural, [.tmp 2], 78, false, true, [], .any⟩

/-- The checked code of spec IsStructural. -/
def ac_spec_IsStructural : AC := (.seq (.post (.reg [⟨(some 1), .op (.box true (.tmp 0)), none⟩,
    ⟨(some 2), .op (.mv (.const (Value.bool false))), none⟩,
    ⟨(some 3), .op (.mv (.const (Value.int .i64 0))), none⟩]) (.kill [0, 2, 3]))
  (.seq (.seq (.post (.reg [⟨(some 4), .call (.func i_spec_l06Ok) [(.tmp 1)], none⟩,
    ⟨(some 5), .op (.un .not (.tmp 4)), none⟩]) (.kill [4]))
  (.cond (.tmp 5) (.ghost (.kill [1, 5]) (.seq (.reg [⟨(some 2), .op (.mv (.const (Value.bool false))), none⟩,
    ⟨(some 3), .op (.mv (.const (Value.int .i64 1))), none⟩])
  .ret))
  (.ghost (.kill [5]) .skip)))
  (.seq (.post (.reg [⟨(some 6), .call (.func i_spec_l06Structural) [(.tmp 1)], none⟩,
    ⟨(some 2), .op (.mv (.tmp 6)), none⟩,
    ⟨(some 3), .op (.mv (.const (Value.int .i64 0))), none⟩]) (.kill [1, 6]))
  .ret)))
theorem cf_spec_IsStructural : chkFn Try.prog i_spec_IsStructural ac_spec_IsStructural [.tmp 2, .tmp 3] 7 = true := by decide +kernel
def fa_spec_IsStructural : FnA := ⟨ac_spec_IsStructural, [.tmp 2, .tmp 3], 7, false, true, [], .any⟩

/-- The checked code of impl isPending. -/
def ac_impl_isPending : AC := (.seq (.post (.reg [⟨(some 6), .op (.mv (.const (Value.bool false))), none⟩]) (.kill [6]))
  (.seq (.post (.reg [⟨(some 8), .op (.mv (.tmp 0)), none⟩,
    ⟨(some 9), .call (.func i_impl_match) [(.tmp 8)], none⟩,
    ⟨(some 7), .op (.alloc (Value.agg #[Value.slice none 0 0, Value.slice none 0 0, Value.slice none 0 0, Value.slice none 0 0, Value.slice none 0 0])), none⟩,
    ⟨none, .op (.store 5 (.tmp 7) (.tmp 9)), none⟩]) (.kill [0, 8, 9]))
  (.seq (.post (.reg [⟨(some 10), .op (.faddr (.tmp 7) 1), none⟩,
    ⟨(some 11), .op (.load 1 false (.tmp 10)), none⟩,
    ⟨(some 12), .op (.len false (.tmp 11)), none⟩,
    ⟨(some 13), .op (.mv (.tmp 1)), none⟩,
    ⟨(some 14), .op (.bin .eql (.tmp 12) (.tmp 13)), none⟩,
    ⟨(some 15), .op (.mv (.tmp 14)), none⟩,
    ⟨(some 16), .op (.faddr (.tmp 7) 2), some (15, true)⟩,
    ⟨(some 17), .op (.load 1 false (.tmp 16)), some (15, true)⟩,
    ⟨(some 18), .op (.len false (.tmp 17)), some (15, true)⟩,
    ⟨(some 19), .op (.mv (.tmp 2)), some (15, true)⟩,
    ⟨(some 20), .op (.bin .eql (.tmp 18) (.tmp 19)), some (15, true)⟩,
    ⟨(some 21), .op (.pick (.tmp 15) (.tmp 20) (.const (Value.bool false))), none⟩,
    ⟨(some 6), .op (.mv (.tmp 21)), none⟩]) (.kill [1, 2, 7, 10, 11, 12, 13, 14, 15, 16, 17, 18, 19, 20, 21]))
  .ret)))
theorem cf_impl_isPending : chkFn Try.prog i_impl_isPending ac_impl_isPending [.tmp 6] 22 = true := by decide +kernel
def fa_impl_isPending : FnA := ⟨ac_impl_isPending, [.tmp 6], 22, false, true, [], .any⟩

/-- The checked code of impl Rewriter  isStructural 1. -/
def ac_impl_Rewriter_isStructural_1 : AC := (.seq (.post (.reg [⟨(some 1), .op (.box true (.tmp 0)), none⟩,
    ⟨(some 2), .op (.mv (.const (Value.bool false))), none⟩]) (.kill [0, 2]))
  (.seq (.post (.reg [⟨(some 3), .op (.faddr (.tmp 1) 1), none⟩,
    ⟨(some 4), .op (.load 1 false (.tmp 3)), none⟩,
    ⟨(some 5), .call (.func i_impl_isPending) [(.tmp 4), (.const (Value.int .i64 1)), (.const (Value.int .i64 0))], none⟩,
    ⟨(some 6), .op (.un .not (.tmp 5)), none⟩,
    ⟨(some 2), .op (.mv (.tmp 6)), none⟩]) (.kill [1, 3, 4, 5, 6]))
  .ret))
theorem cf_impl_Rewriter_isStructural_1 : chkFn Try.prog i_impl_Rewriter_isStructural_1 ac_impl_Rewriter_isStructural_1 [.tmp 2] 7 = true := by decide +kernel
def fa_impl_Rewriter_isStructural_1 : FnA := ⟨ac_impl_Rewriter_isStructural_1, [.tmp 2], 7, false, true, [], .any⟩

/-- The checked code of impl Rewriter  isStructural. -/
def lb_impl_Rewriter_isStructural_0 : AC := (.seq (.reg [⟨(some 12), .op (.bin .lss (.tmp 11) (.const (Value.int .i64 2))), none⟩])
  (.seq (.cond (.tmp 12) (.ghost (.kill [12]) .skip)
  (.ghost (.kill [3, 11, 12]) (.exit 2)))
  (.seq (.block 3 (.seq (.post (.reg [⟨(some 13), .op (.mv (.tmp 11)), none⟩,
    ⟨(some 4), .op (.mv (.tmp 13)), none⟩]) (.kill [13]))
  (.seq (.post (.reg [⟨(some 14), .op (.faddr (.tmp 1) 2), none⟩,
    ⟨(some 15), .op (.load 1 false (.tmp 14)), none⟩,
    ⟨(some 16), .op (.mv (.tmp 3)), none⟩,
    ⟨(some 17), .op (.iaddrS (.tmp 15) (.tmp 16) 1), none⟩,
    ⟨(some 18), .op (.load 1 false (.tmp 17)), none⟩,
    ⟨(some 19), .op (.mv (.tmp 4)), none⟩,
    ⟨(some 20), .op (.iaddrS (.tmp 18) (.tmp 19) 3), none⟩,
    ⟨(some 21), .op (.faddr (.tmp 20) 2), none⟩,
    ⟨(some 22), .op (.load 1 false (.tmp 21)), none⟩,
    ⟨(some 23), .call (.func i_impl_isPending) [(.tmp 22), (.const (Value.int .i64 0)), (.const (Value.int .i64 1))], none⟩,
    ⟨(some 24), .op (.un .not (.tmp 23)), none⟩,
    ⟨(some 25), .op (.mv (.tmp 24)), none⟩,
    ⟨(some 26), .op (.faddr (.tmp 1) 4), some (25, false)⟩,
    ⟨(some 27), .op (.load 1 false (.tmp 26)), some (25, false)⟩,
    ⟨(some 28), .op (.mv (.tmp 3)), some (25, false)⟩,
    ⟨(some 29), .op (.iaddrS (.tmp 27) (.tmp 28) 1), some (25, false)⟩,
    ⟨(some 30), .op (.load 1 false (.tmp 29)), some (25, false)⟩,
    ⟨(some 31), .op (.mv (.tmp 4)), some (25, false)⟩,
    ⟨(some 32), .op (.iaddrS (.tmp 30) (.tmp 31) 2), some (25, false)⟩,
    ⟨(some 33), .op (.faddr (.tmp 32) 1), some (25, false)⟩,
    ⟨(some 34), .op (.load 1 false (.tmp 33)), some (25, false)⟩,
    ⟨(some 35), .call (.func i_impl_isPending) [(.tmp 34), (.const (Value.int .i64 0)), (.const (Value.int .i64 0))], some (25, false)⟩,
    ⟨(some 36), .op (.un .not (.tmp 35)), some (25, false)⟩,
    ⟨(some 37), .op (.pick (.tmp 25) (.const (Value.bool true)) (.tmp 36)), none⟩,
    ⟨(some 38), .op (.mv (.tmp 37)), none⟩,
    ⟨(some 39), .op (.faddr (.tmp 1) 3), some (38, false)⟩,
    ⟨(some 40), .op (.load 1 false (.tmp 39)), some (38, false)⟩,
    ⟨(some 41), .op (.mv (.tmp 3)), some (38, false)⟩,
    ⟨(some 42), .op (.iaddrS (.tmp 40) (.tmp 41) 1), some (38, false)⟩,
    ⟨(some 43), .op (.load 1 false (.tmp 42)), some (38, false)⟩,
    ⟨(some 44), .op (.mv (.tmp 4)), some (38, false)⟩,
    ⟨(some 45), .op (.iaddrS (.tmp 43) (.tmp 44) 1), some (38, false)⟩,
    ⟨(some 46), .op (.load 1 false (.tmp 45)), some (38, false)⟩,
    ⟨(some 47), .call (.func i_slices_ContainsFunc_L_impl_OutMove) [(.tmp 46), (.func i_impl_Rewriter_isStructural_1)], some (38, false)⟩,
    ⟨(some 48), .op (.pick (.tmp 38) (.const (Value.bool true)) (.tmp 47)), none⟩]) (.kill [4, 14, 15, 16, 17, 18, 19, 20, 21, 22, 23, 24, 25, 26, 27, 28, 29, 30, 31, 32, 33, 34, 35, 36, 37, 38, 39, 40, 41, 42, 43, 44, 45, 46, 47]))
  (.cond (.tmp 48) (.ghost (.kill [1, 3, 7, 8, 11, 48]) (.seq (.reg [⟨(some 2), .op (.mv (.const (Value.bool false))), none⟩])
  .ret))
  (.ghost (.kill [48]) .skip)))))
  (.post (.reg [⟨(some 49), .op (.bin .add (.tmp 11) (.const (Value.int .i64 1))), none⟩,
    ⟨(some 11), .op (.mv (.tmp 49)), none⟩]) (.kill [49])))))
def lo_impl_Rewriter_isStructural_0 : AC := (.loop lb_impl_Rewriter_isStructural_0)
def lb_impl_Rewriter_isStructural_1 : AC := (.seq (.reg [⟨(some 9), .op (.bin .lss (.tmp 8) (.tmp 7)), none⟩])
  (.seq (.cond (.tmp 9) (.ghost (.kill [9]) .skip)
  (.ghost (.kill [1, 7, 8, 9]) (.exit 0)))
  (.seq (.block 1 (.seq (.post (.reg [⟨(some 10), .op (.mv (.tmp 8)), none⟩,
    ⟨(some 3), .op (.mv (.tmp 10)), none⟩]) (.kill [10]))
  (.seq (.reg [⟨(some 11), .op (.mv (.const (Value.int .i64 0))), none⟩])
  (.block 2 lo_impl_Rewriter_isStructural_0))))
  (.ghost (.kill [3, 11]) (.post (.reg [⟨(some 50), .op (.bin .add (.tmp 8) (.const (Value.int .i64 1))), none⟩,
    ⟨(some 8), .op (.mv (.tmp 50)), none⟩]) (.kill [50]))))))
def lo_impl_Rewriter_isStructural_1 : AC := (.loop lb_impl_Rewriter_isStructural_1)
def ac_impl_Rewriter_isStructural : AC := (.seq (.post (.reg [⟨(some 1), .op (.box true (.tmp 0)), none⟩,
    ⟨(some 2), .op (.mv (.const (Value.bool false))), none⟩]) (.kill [0, 2]))
  (.seq (.seq (.post (.reg [⟨(some 5), .op (.faddr (.tmp 1) 2), none⟩,
    ⟨(some 6), .op (.load 1 false (.tmp 5)), none⟩,
    ⟨(some 7), .op (.len false (.tmp 6)), none⟩,
    ⟨(some 8), .op (.mv (.const (Value.int .i64 0))), none⟩]) (.kill [5, 6]))
  (.block 0 lo_impl_Rewriter_isStructural_1))
  (.ghost (.kill [1, 7, 8]) (.seq (.reg [⟨(some 2), .op (.mv (.const (Value.bool true))), none⟩])
  .ret))))
theorem cf_impl_Rewriter_isStructural : chkFn Try.prog i_impl_Rewriter_isStructural ac_impl_Rewriter_isStructural [.tmp 2] 51 = true := by decide +kernel
def fa_impl_Rewriter_isStructural : FnA := ⟨ac_impl_Rewriter_isStructural, [.tmp 2], 51, false, true, [], .any⟩

/-- The checked code of impl IsStructural. -/
def ac_impl_IsStructural : AC := (.seq (.post (.reg [⟨(some 1), .op (.box true (.tmp 0)), none⟩,
    ⟨(some 2), .op (.mv (.const (Value.bool false))), none⟩,
    ⟨(some 3), .op (.mv (.const (Value.int .i64 0))), none⟩]) (.kill [0, 2, 3]))
  (.seq (.seq (.post (.reg [⟨(some 4), .op (.load 5 true (.tmp 1)), none⟩,
    ⟨(some 5), .call (.func i_impl_ValidRewriter) [(.tmp 4)], none⟩,
    ⟨(some 6), .op (.un .not (.tmp 5)), none⟩]) (.kill [4, 5]))
  (.cond (.tmp 6) (.ghost (.kill [1, 6]) (.seq (.reg [⟨(some 2), .op (.mv (.const (Value.bool false))), none⟩,
    ⟨(some 3), .op (.mv (.const (Value.int .i64 1))), none⟩])
  .ret))
  (.ghost (.kill [6]) .skip)))
  (.seq (.post (.reg [⟨(some 7), .op (.load 5 true (.tmp 1)), none⟩,
    ⟨(some 8), .call (.func i_impl_Rewriter_isStructural) [(.tmp 7)], none⟩,
    ⟨(some 2), .op (.mv (.tmp 8)), none⟩,
    ⟨(some 3), .op (.mv (.const (Value.int .i64 0))), none⟩]) (.kill [1, 7, 8]))
  .ret)))
theorem cf_impl_IsStructural : chkFn Try.prog i_impl_IsStructural ac_impl_IsStructural [.tmp 2, .tmp 3] 9 = true := by decide +kernel
def fa_impl_IsStructural : FnA := ⟨ac_impl_IsStructural, [.tmp 2, .tmp 3], 9, false, true, [], .any⟩

/-- The checked code of laws FnExactIsStructural. -/
def ac_laws_FnExactIsStructural : AC := (.seq (.post (.reg [⟨(some 1), .op (.box true (.tmp 0)), none⟩,
    ⟨(some 2), .op (.mv (.const (Value.bool false))), none⟩]) (.kill [0, 2]))
  (.seq (.reg [⟨(some 3), .op (.mv (.const (Value.int .i64 1048576))), none⟩])
  (.seq (.post (.reg [⟨(some 9), .op (.load 5 true (.tmp 1)), none⟩,
    ⟨(some 10), .op (.mv (.tmp 3)), none⟩,
    ⟨(some 11), .call (.func i_laws_szRewriter) [(.tmp 9), (.tmp 10)], none⟩,
    ⟨(some 3), .op (.mv (.tmp 11)), none⟩]) (.kill [9, 10, 11]))
  (.seq (.seq (.post (.reg [⟨(some 12), .op (.mv (.tmp 3)), none⟩,
    ⟨(some 13), .op (.bin .lss (.tmp 12) (.const (Value.int .i64 0))), none⟩]) (.kill [3, 12]))
  (.cond (.tmp 13) (.ghost (.kill [1, 13]) (.seq (.reg [⟨(some 2), .op (.mv (.const (Value.bool true))), none⟩])
  .ret))
  (.ghost (.kill [13]) .skip)))
  (.seq (.post (.reg [⟨(some 15), .op (.load 5 true (.tmp 1)), none⟩,
    ⟨(some 16), .call (.func i_laws_toRewriter) [(.tmp 15)], none⟩,
    ⟨(some 17), .call (.func i_spec_IsStructural) [(.tmp 16)], none⟩,
    ⟨(some 14), .op (.mv (.tmp 17)), none⟩,
    ⟨(some 18), .op (.ext (.tmp 14) 0), none⟩,
    ⟨(some 19), .op (.ext (.tmp 14) 1), none⟩,
    ⟨(some 4), .op (.mv (.tmp 18)), none⟩,
    ⟨(some 5), .op (.mv (.tmp 19)), none⟩]) (.kill [14, 15, 16, 17, 18, 19]))
  (.seq (.post (.reg [⟨(some 20), .op (.load 5 true (.tmp 1)), none⟩,
    ⟨(some 21), .call (.func i_laws_toRewriter) [(.tmp 20)], none⟩,
    ⟨(some 6), .op (.alloc (Value.agg #[Value.int .i64 0, Value.int .i64 0, Value.slice none 0 0, Value.slice none 0 0, Value.slice none 0 0])), none⟩,
    ⟨none, .op (.store 5 (.tmp 6) (.tmp 21)), none⟩]) (.kill [20, 21]))
  (.seq (.post (.reg [⟨(some 23), .op (.load 5 true (.tmp 6)), none⟩,
    ⟨(some 24), .call (.func i_impl_IsStructural) [(.tmp 23)], none⟩,
    ⟨(some 22), .op (.mv (.tmp 24)), none⟩,
    ⟨(some 25), .op (.ext (.tmp 22) 0), none⟩,
    ⟨(some 26), .op (.ext (.tmp 22) 1), none⟩,
    ⟨(some 7), .op (.mv (.tmp 25)), none⟩,
    ⟨(some 8), .op (.mv (.tmp 26)), none⟩]) (.kill [22, 23, 24, 25, 26]))
  (.seq (.seq (.post (.reg [⟨(some 27), .op (.mv (.tmp 7)), none⟩,
    ⟨(some 28), .op (.mv (.tmp 4)), none⟩,
    ⟨(some 29), .op (.eqb true (.tmp 27) (.tmp 28)), none⟩,
    ⟨(some 30), .op (.mv (.tmp 29)), none⟩,
    ⟨(some 31), .op (.mv (.tmp 8)), some (30, false)⟩,
    ⟨(some 32), .op (.mv (.tmp 5)), some (30, false)⟩,
    ⟨(some 33), .op (.bin .neq (.tmp 31) (.tmp 32)), some (30, false)⟩,
    ⟨(some 34), .op (.pick (.tmp 30) (.const (Value.bool true)) (.tmp 33)), none⟩]) (.kill [4, 5, 7, 8, 27, 28, 29, 30, 31, 32, 33]))
  (.cond (.tmp 34) (.ghost (.kill [1, 6, 34]) (.seq (.reg [⟨(some 2), .op (.mv (.const (Value.bool false))), none⟩])
  .ret))
  (.ghost (.kill [34]) .skip)))
  (.seq (.seq (.post (.draw [⟨0, ⟨(some 35), .op (.load 5 true (.tmp 6)), none⟩, []⟩,
    ⟨1, ⟨(some 36), .op (.load 5 true (.tmp 1)), none⟩, []⟩,
    ⟨2, ⟨(some 37), .call (.func i_laws_toRewriter) [(.tmp 36)], none⟩, [0]⟩,
    ⟨3, ⟨(some 38), .call (.func i_laws_eqRewriter) [(.tmp 35), (.tmp 37)], none⟩, []⟩,
    ⟨4, ⟨(some 39), .op (.un .not (.tmp 38)), none⟩, []⟩]
    [0, 0, 2, 7, 15]) (.kill [1, 6, 35, 36, 37, 38]))
  (.cond (.tmp 39) (.ghost (.kill [39]) (.seq (.reg [⟨(some 2), .op (.mv (.const (Value.bool false))), none⟩])
  .ret))
  (.ghost (.kill [39]) .skip)))
  (.seq (.reg [⟨(some 2), .op (.mv (.const (Value.bool true))), none⟩])
  .ret))))))))))
theorem cf_laws_FnExactIsStructural : chkFn Try.prog i_laws_FnExactIsStructural ac_laws_FnExactIsStructural [.tmp 2] 40 = true := by decide +kernel
def fa_laws_FnExactIsStructural : FnA := ⟨ac_laws_FnExactIsStructural, [.tmp 2], 40, false, true, [], .any⟩

/-- The checked code of spec l00Own. -/
def ac_spec_l00Own : AC := (.seq (.post (.reg [⟨(some 2), .op (.mv (.const (Value.slice none 0 0))), none⟩]) (.kill [2]))
  (.seq (.post (.post (.reg [⟨(some 3), .op (.lits true 1 0 (Value.int .i64 0) []), none⟩,
    ⟨(some 4), .op (.mv (.tmp 0)), none⟩,
    ⟨(some 5), .op (.append (.tmp 3) (.tmp 4) 1 8), none⟩,
    ⟨(some 2), .op (.mv (.tmp 5)), none⟩]) (.kill [0, 3, 4, 5])) .nv)
  .ret))
theorem cf_spec_l00Own : chkFn Try.prog i_spec_l00Own ac_spec_l00Own [.tmp 2] 6 = true := by decide +kernel
def fa_spec_l00Own : FnA := ⟨ac_spec_l00Own, [.tmp 2], 6, false, true, [], .any⟩

/-- The checked code of spec l06Run  read. -/
def ac_P_spec_l06Run_read : AC := (.seq (.reg [⟨(some 4), .op (.mv (.const (Value.int .i64 0))), none⟩])
  (.seq (.seq (.post (.reg [⟨(some 8), .op (.mv (.tmp 1)), none⟩,
    ⟨(some 9), .op (.bin .eql (.tmp 8) (.const (Value.int .u8 91))), none⟩,
    ⟨(some 10), .op (.mv (.tmp 9)), none⟩,
    ⟨(some 11), .op (.mv (.tmp 1)), some (10, false)⟩,
    ⟨(some 12), .op (.bin .eql (.tmp 11) (.const (Value.int .u8 93))), some (10, false)⟩,
    ⟨(some 13), .op (.pick (.tmp 10) (.const (Value.bool true)) (.tmp 12)), none⟩,
    ⟨(some 14), .op (.mv (.tmp 13)), none⟩,
    ⟨(some 15), .op (.mv (.tmp 1)), some (14, false)⟩,
    ⟨(some 16), .op (.bin .eql (.tmp 15) (.const (Value.int .u8 98))), some (14, false)⟩,
    ⟨(some 17), .op (.pick (.tmp 14) (.const (Value.bool true)) (.tmp 16)), none⟩]) (.kill [8, 9, 10, 11, 12, 13, 14, 15, 16]))
  (.cond (.tmp 17) (.ghost (.kill [4, 17]) (.reg [⟨(some 4), .op (.mv (.const (Value.int .i64 1))), none⟩]))
  (.ghost (.kill [17]) .skip)))
  (.seq (.seq (.post (.reg [⟨(some 18), .op (.mv (.tmp 1)), none⟩,
    ⟨(some 19), .call (.func i_spec_l01Call) [(.tmp 18)], none⟩]) (.kill [18]))
  (.cond (.tmp 19) (.ghost (.kill [1, 19]) (.seq (.post (.draw [⟨0, ⟨(some 20), .op (.mv (.tmp 0)), none⟩, []⟩,
    ⟨1, ⟨(some 21), .op (.nilc (.tmp 20)), none⟩, []⟩,
    ⟨2, ⟨(some 22), .op (.faddr (.tmp 21) 0), none⟩, []⟩,
    ⟨3, ⟨(some 23), .op (.load 1 false (.tmp 22)), none⟩, []⟩,
    ⟨4, ⟨(some 24), .op (.nilc (.tmp 23)), none⟩, []⟩,
    ⟨5, ⟨(some 25), .op (.faddr (.tmp 24) 2), none⟩, []⟩,
    ⟨6, ⟨(some 26), .op (.load 1 false (.tmp 25)), none⟩, []⟩,
    ⟨7, ⟨(some 27), .op (.mv (.tmp 0)), none⟩, []⟩,
    ⟨8, ⟨(some 28), .op (.nilc (.tmp 27)), none⟩, []⟩,
    ⟨9, ⟨(some 29), .op (.faddr (.tmp 28) 1), none⟩, []⟩,
    ⟨10, ⟨(some 30), .op (.load 1 false (.tmp 29)), none⟩, []⟩,
    ⟨11, ⟨(some 31), .op (.iaddrS (.tmp 26) (.tmp 30) 1), none⟩, []⟩,
    ⟨12, ⟨(some 32), .op (.load 1 false (.tmp 31)), none⟩, []⟩,
    ⟨13, ⟨(some 33), .op (.mv (.tmp 4)), none⟩, []⟩,
    ⟨14, ⟨(some 34), .op (.iaddrS (.tmp 32) (.tmp 33) 3), none⟩, []⟩,
    ⟨15, ⟨(some 35), .op (.load 3 true (.tmp 34)), none⟩, []⟩,
    ⟨16, ⟨(some 5), .op (.alloc (Value.agg #[Value.int .i64 0, Value.int .i64 0, Value.string ⟨#[]⟩])), none⟩, [3, 6, 10, 11, 12, 14, 15]⟩,
    ⟨17, ⟨none, .op (.store 3 (.tmp 5) (.tmp 35)), none⟩, []⟩]
    [0, 1, 3, 7, 15, 31, 63, 0, 128, 384, 896, 2047, 4095, 0, 16383, 32767, 0, 131071]) (.kill [4, 20, 21, 22, 23, 24, 25, 26, 27, 28, 29, 30, 31, 32, 33, 34, 35]))
  (.seq (.post (.reg [⟨(some 36), .op (.mv (.tmp 0)), none⟩,
    ⟨(some 37), .op (.faddr (.tmp 5) 0), none⟩,
    ⟨(some 38), .op (.load 1 false (.tmp 37)), none⟩,
    ⟨(some 39), .op (.nilc (.tmp 36)), none⟩,
    ⟨(some 40), .op (.faddr (.tmp 39) 1), none⟩,
    ⟨none, .op (.store 1 (.tmp 40) (.tmp 38)), none⟩]) (.kill [36, 37, 38, 39, 40]))
  (.seq (.post (.post (.draw [⟨0, ⟨(some 41), .op (.mv (.tmp 0)), none⟩, []⟩,
    ⟨1, ⟨(some 42), .op (.mv (.tmp 0)), none⟩, []⟩,
    ⟨2, ⟨(some 43), .op (.nilc (.tmp 42)), none⟩, []⟩,
    ⟨3, ⟨(some 44), .op (.faddr (.tmp 43) 2), none⟩, []⟩,
    ⟨4, ⟨(some 45), .op (.load 1 false (.tmp 44)), none⟩, []⟩,
    ⟨5, ⟨(some 46), .op (.faddr (.tmp 5) 1), none⟩, []⟩,
    ⟨6, ⟨(some 47), .op (.load 1 false (.tmp 46)), none⟩, []⟩,
    ⟨7, ⟨(some 48), .op (.lits true 1 1 (Value.int .i64 0) [(0, (.tmp 47))]), none⟩, []⟩,
    ⟨8, ⟨(some 49), .op (.append (.tmp 45) (.tmp 48) 1 8), none⟩, []⟩,
    ⟨9, ⟨(some 50), .op (.nilc (.tmp 41)), none⟩, []⟩,
    ⟨10, ⟨(some 51), .op (.faddr (.tmp 50) 2), none⟩, []⟩,
    ⟨11, ⟨none, .op (.store 1 (.tmp 51) (.tmp 49)), none⟩, []⟩]
    [0, 0, 2, 6, 14, 0, 32, 96, 254, 511, 1023, 2047]) (.kill [41, 42, 43, 44, 45, 46, 47, 48, 49, 50, 51])) .nv)
  (.seq (.post (.post (.draw [⟨0, ⟨(some 52), .op (.mv (.tmp 0)), none⟩, []⟩,
    ⟨1, ⟨(some 53), .op (.mv (.tmp 0)), none⟩, []⟩,
    ⟨2, ⟨(some 54), .op (.nilc (.tmp 53)), none⟩, []⟩,
    ⟨3, ⟨(some 55), .op (.faddr (.tmp 54) 3), none⟩, []⟩,
    ⟨4, ⟨(some 56), .op (.load 1 false (.tmp 55)), none⟩, []⟩,
    ⟨5, ⟨(some 57), .op (.faddr (.tmp 5) 2), none⟩, []⟩,
    ⟨6, ⟨(some 58), .op (.load 1 false (.tmp 57)), none⟩, []⟩,
    ⟨7, ⟨(some 59), .op (.append (.tmp 56) (.tmp 58) 1 1), none⟩, []⟩,
    ⟨8, ⟨(some 60), .op (.nilc (.tmp 52)), none⟩, []⟩,
    ⟨9, ⟨(some 61), .op (.faddr (.tmp 60) 3), none⟩, []⟩,
    ⟨10, ⟨none, .op (.store 1 (.tmp 61) (.tmp 59)), none⟩, []⟩]
    [0, 0, 2, 6, 14, 0, 32, 126, 255, 511, 1023]) (.kill [0, 5, 52, 53, 54, 55, 56, 57, 58, 59, 60, 61])) .nv)
  .ret)))))
  (.ghost (.kill [19]) .skip)))
  (.seq (.post (.draw [⟨0, ⟨(some 62), .op (.mv (.tmp 0)), none⟩, []⟩,
    ⟨1, ⟨(some 63), .op (.nilc (.tmp 62)), none⟩, []⟩,
    ⟨2, ⟨(some 64), .op (.faddr (.tmp 63) 0), none⟩, []⟩,
    ⟨3, ⟨(some 65), .op (.load 1 false (.tmp 64)), none⟩, []⟩,
    ⟨4, ⟨(some 66), .op (.nilc (.tmp 65)), none⟩, []⟩,
    ⟨5, ⟨(some 67), .op (.faddr (.tmp 66) 4), none⟩, []⟩,
    ⟨6, ⟨(some 68), .op (.load 1 false (.tmp 67)), none⟩, []⟩,
    ⟨7, ⟨(some 69), .op (.mv (.tmp 0)), none⟩, []⟩,
    ⟨8, ⟨(some 70), .op (.nilc (.tmp 69)), none⟩, []⟩,
    ⟨9, ⟨(some 71), .op (.faddr (.tmp 70) 1), none⟩, []⟩,
    ⟨10, ⟨(some 72), .op (.load 1 false (.tmp 71)), none⟩, []⟩,
    ⟨11, ⟨(some 73), .op (.iaddrS (.tmp 68) (.tmp 72) 1), none⟩, []⟩,
    ⟨12, ⟨(some 74), .op (.load 1 false (.tmp 73)), none⟩, []⟩,
    ⟨13, ⟨(some 75), .op (.mv (.tmp 4)), none⟩, []⟩,
    ⟨14, ⟨(some 76), .op (.iaddrS (.tmp 74) (.tmp 75) 2), none⟩, []⟩,
    ⟨15, ⟨(some 77), .op (.load 2 true (.tmp 76)), none⟩, []⟩,
    ⟨16, ⟨(some 6), .op (.alloc (Value.agg #[Value.int .i64 0, Value.string ⟨#[]⟩])), none⟩, [3, 6, 10, 11, 12, 14, 15]⟩,
    ⟨17, ⟨none, .op (.store 2 (.tmp 6) (.tmp 77)), none⟩, []⟩]
    [0, 1, 3, 7, 15, 31, 63, 0, 128, 384, 896, 2047, 4095, 0, 16383, 32767, 0, 131071]) (.kill [62, 63, 64, 65, 66, 67, 68, 69, 70, 71, 72, 73, 74, 75, 76, 77]))
  (.seq (.seq (.post (.reg [⟨(some 78), .op (.mv (.tmp 1)), none⟩,
    ⟨(some 79), .call (.func i_spec_l01Return) [(.tmp 78)], none⟩]) (.kill [1, 78]))
  (.cond (.tmp 79) (.ghost (.kill [79]) (.seq (.post (.reg [⟨(some 80), .op (.mv (.tmp 0)), none⟩,
    ⟨(some 81), .op (.nilc (.tmp 80)), none⟩,
    ⟨(some 82), .op (.faddr (.tmp 81) 0), none⟩,
    ⟨(some 83), .op (.load 1 false (.tmp 82)), none⟩,
    ⟨(some 84), .op (.nilc (.tmp 83)), none⟩,
    ⟨(some 85), .op (.faddr (.tmp 84) 0), none⟩,
    ⟨(some 86), .op (.load 1 false (.tmp 85)), none⟩,
    ⟨(some 7), .op (.mv (.tmp 86)), none⟩]) (.kill [80, 81, 82, 83, 84, 85, 86]))
  (.seq (.seq (.post (.reg [⟨(some 87), .op (.mv (.tmp 0)), none⟩,
    ⟨(some 88), .op (.nilc (.tmp 87)), none⟩,
    ⟨(some 89), .op (.faddr (.tmp 88) 2), none⟩,
    ⟨(some 90), .op (.load 1 false (.tmp 89)), none⟩,
    ⟨(some 91), .op (.len false (.tmp 90)), none⟩,
    ⟨(some 92), .op (.bin .gtr (.tmp 91) (.const (Value.int .i64 0))), none⟩]) (.kill [87, 88, 89, 90, 91]))
  (.cond (.tmp 92) (.ghost (.kill [7, 92]) (.seq (.post (.draw [⟨0, ⟨(some 93), .op (.mv (.tmp 0)), none⟩, []⟩,
    ⟨1, ⟨(some 94), .op (.nilc (.tmp 93)), none⟩, []⟩,
    ⟨2, ⟨(some 95), .op (.faddr (.tmp 94) 2), none⟩, []⟩,
    ⟨3, ⟨(some 96), .op (.load 1 false (.tmp 95)), none⟩, []⟩,
    ⟨4, ⟨(some 97), .op (.mv (.tmp 0)), none⟩, []⟩,
    ⟨5, ⟨(some 98), .op (.nilc (.tmp 97)), none⟩, []⟩,
    ⟨6, ⟨(some 99), .op (.faddr (.tmp 98) 2), none⟩, []⟩,
    ⟨7, ⟨(some 100), .op (.load 1 false (.tmp 99)), none⟩, []⟩,
    ⟨8, ⟨(some 101), .op (.len false (.tmp 100)), none⟩, []⟩,
    ⟨9, ⟨(some 102), .op (.bin .sub (.tmp 101) (.const (Value.int .i64 1))), none⟩, []⟩,
    ⟨10, ⟨(some 103), .op (.iaddrS (.tmp 96) (.tmp 102) 1), none⟩, []⟩,
    ⟨11, ⟨(some 104), .op (.load 1 false (.tmp 103)), none⟩, []⟩,
    ⟨12, ⟨(some 7), .op (.mv (.tmp 104)), none⟩, []⟩]
    [0, 1, 3, 7, 0, 16, 48, 112, 240, 496, 1023, 2047, 4095]) (.kill [93, 94, 95, 96, 97, 98, 99, 100, 101, 102, 103, 104]))
  (.post (.post (.draw [⟨0, ⟨(some 105), .op (.mv (.tmp 0)), none⟩, []⟩,
    ⟨1, ⟨(some 106), .op (.mv (.tmp 0)), none⟩, []⟩,
    ⟨2, ⟨(some 107), .op (.nilc (.tmp 106)), none⟩, []⟩,
    ⟨3, ⟨(some 108), .op (.faddr (.tmp 107) 2), none⟩, []⟩,
    ⟨4, ⟨(some 109), .op (.load 1 false (.tmp 108)), none⟩, []⟩,
    ⟨5, ⟨(some 110), .op (.mv (.tmp 0)), none⟩, []⟩,
    ⟨6, ⟨(some 111), .op (.nilc (.tmp 110)), none⟩, []⟩,
    ⟨7, ⟨(some 112), .op (.faddr (.tmp 111) 2), none⟩, []⟩,
    ⟨8, ⟨(some 113), .op (.load 1 false (.tmp 112)), none⟩, []⟩,
    ⟨9, ⟨(some 114), .op (.len false (.tmp 113)), none⟩, []⟩,
    ⟨10, ⟨(some 115), .op (.bin .sub (.tmp 114) (.const (Value.int .i64 1))), none⟩, []⟩,
    ⟨11, ⟨(some 116), .op (.slcS (.tmp 109) none (some (.tmp 115)) none 1), none⟩, []⟩,
    ⟨12, ⟨(some 117), .op (.nilc (.tmp 105)), none⟩, []⟩,
    ⟨13, ⟨(some 118), .op (.faddr (.tmp 117) 2), none⟩, []⟩,
    ⟨14, ⟨none, .op (.store 1 (.tmp 118) (.tmp 116)), none⟩, []⟩]
    [0, 0, 2, 6, 14, 0, 32, 96, 224, 480, 992, 2046, 4095, 8191, 16383]) (.kill [105, 106, 107, 108, 109, 110, 111, 112, 113, 114, 115, 116, 117, 118])) .nv)))
  (.ghost (.kill [92]) .skip)))
  (.post (.draw [⟨0, ⟨(some 119), .op (.mv (.tmp 0)), none⟩, []⟩,
    ⟨1, ⟨(some 120), .op (.nilc (.tmp 119)), none⟩, []⟩,
    ⟨2, ⟨(some 121), .op (.faddr (.tmp 120) 0), none⟩, []⟩,
    ⟨3, ⟨(some 122), .op (.load 1 false (.tmp 121)), none⟩, []⟩,
    ⟨4, ⟨(some 123), .op (.nilc (.tmp 122)), none⟩, []⟩,
    ⟨5, ⟨(some 124), .op (.faddr (.tmp 123) 3), none⟩, []⟩,
    ⟨6, ⟨(some 125), .op (.load 1 false (.tmp 124)), none⟩, []⟩,
    ⟨7, ⟨(some 126), .op (.mv (.tmp 0)), none⟩, []⟩,
    ⟨8, ⟨(some 127), .op (.nilc (.tmp 126)), none⟩, []⟩,
    ⟨9, ⟨(some 128), .op (.faddr (.tmp 127) 1), none⟩, []⟩,
    ⟨10, ⟨(some 129), .op (.load 1 false (.tmp 128)), none⟩, []⟩,
    ⟨11, ⟨(some 130), .op (.iaddrS (.tmp 125) (.tmp 129) 1), none⟩, []⟩,
    ⟨12, ⟨(some 131), .op (.load 1 false (.tmp 130)), none⟩, []⟩,
    ⟨13, ⟨(some 132), .op (.mv (.tmp 4)), none⟩, []⟩,
    ⟨14, ⟨(some 133), .op (.iaddrS (.tmp 131) (.tmp 132) 1), none⟩, []⟩,
    ⟨15, ⟨(some 134), .op (.load 1 false (.tmp 133)), none⟩, []⟩,
    ⟨16, ⟨(some 135), .op (.mv (.tmp 7)), none⟩, []⟩,
    ⟨17, ⟨(some 136), .op (.iaddrS (.tmp 134) (.tmp 135) 2), none⟩, []⟩,
    ⟨18, ⟨(some 137), .op (.load 2 true (.tmp 136)), none⟩, []⟩,
    ⟨19, ⟨none, .op (.store 2 (.tmp 6) (.tmp 137)), none⟩, []⟩]
    [0, 1, 3, 7, 15, 31, 63, 0, 128, 384, 896, 2047, 4095, 0, 16383, 32767, 0, 131071, 262143, 524287]) (.kill [4, 7, 119, 120, 121, 122, 123, 124, 125, 126, 127, 128, 129, 130, 131, 132, 133, 134, 135, 136, 137])))))
  (.ghost (.kill [4, 79]) .skip)))
  (.seq (.post (.reg [⟨(some 138), .op (.mv (.tmp 0)), none⟩,
    ⟨(some 139), .op (.faddr (.tmp 6) 0), none⟩,
    ⟨(some 140), .op (.load 1 false (.tmp 139)), none⟩,
    ⟨(some 141), .op (.nilc (.tmp 138)), none⟩,
    ⟨(some 142), .op (.faddr (.tmp 141) 1), none⟩,
    ⟨none, .op (.store 1 (.tmp 142) (.tmp 140)), none⟩]) (.kill [138, 139, 140, 141, 142]))
  (.post (.post (.draw [⟨0, ⟨(some 143), .op (.mv (.tmp 0)), none⟩, []⟩,
    ⟨1, ⟨(some 144), .op (.mv (.tmp 0)), none⟩, []⟩,
    ⟨2, ⟨(some 145), .op (.nilc (.tmp 144)), none⟩, []⟩,
    ⟨3, ⟨(some 146), .op (.faddr (.tmp 145) 3), none⟩, []⟩,
    ⟨4, ⟨(some 147), .op (.load 1 false (.tmp 146)), none⟩, []⟩,
    ⟨5, ⟨(some 148), .op (.faddr (.tmp 6) 1), none⟩, []⟩,
    ⟨6, ⟨(some 149), .op (.load 1 false (.tmp 148)), none⟩, []⟩,
    ⟨7, ⟨(some 150), .op (.append (.tmp 147) (.tmp 149) 1 1), none⟩, []⟩,
    ⟨8, ⟨(some 151), .op (.nilc (.tmp 143)), none⟩, []⟩,
    ⟨9, ⟨(some 152), .op (.faddr (.tmp 151) 3), none⟩, []⟩,
    ⟨10, ⟨none, .op (.store 1 (.tmp 152) (.tmp 150)), none⟩, []⟩]
    [0, 0, 2, 6, 14, 0, 32, 126, 255, 511, 1023]) (.kill [0, 6, 143, 144, 145, 146, 147, 148, 149, 150, 151, 152])) .nv)))))))
theorem cf_P_spec_l06Run_read : chkFn Try.prog i_P_spec_l06Run_read ac_P_spec_l06Run_read [] 153 = true := by decide +kernel
def fa_P_spec_l06Run_read : FnA := ⟨ac_P_spec_l06Run_read, [], 153, true, false, [], .any⟩

/-- The checked code of spec l06Reads. -/
def lb_spec_l06Reads_0 : AC := (.post (.seq (.seq (.post (.reg [⟨(some 17), .op (.mv (.tmp 10)), none⟩,
    ⟨(some 18), .op (.mv (.tmp 3)), none⟩,
    ⟨(some 19), .op (.len true (.tmp 18)), none⟩,
    ⟨(some 20), .op (.bin .lss (.tmp 17) (.tmp 19)), none⟩]) (.kill [17, 18, 19]))
  (.cond (.tmp 20) (.ghost (.kill [20]) .skip)
  (.ghost (.kill [3, 10, 20]) (.exit 0))))
  (.seq (.block 1 (.post (.reg [⟨(some 23), .op (.mv (.tmp 9)), none⟩,
    ⟨(some 24), .op (.mv (.tmp 3)), none⟩,
    ⟨(some 25), .op (.mv (.tmp 10)), none⟩,
    ⟨(some 26), .op (.idxStr (.tmp 24) (.tmp 25)), none⟩,
    ⟨(some 27), .call (.func i_P_spec_l06Run_read) [(.tmp 23), (.tmp 26)], none⟩]) (.kill [23, 24, 25, 26, 27])))
  (.post (.reg [⟨(some 21), .op (.mv (.tmp 10)), none⟩,
    ⟨(some 22), .op (.bin .add (.tmp 21) (.const (Value.int .i64 1))), none⟩,
    ⟨(some 10), .op (.mv (.tmp 22)), none⟩]) (.kill [21, 22])))) .nv)
def lo_spec_l06Reads_0 : AC := (.loop lb_spec_l06Reads_0)
def ac_spec_l06Reads : AC := (.seq (.post (.reg [⟨(some 8), .op (.mv (.const (Value.pointer none))), none⟩]) (.kill [8]))
  (.seq (.post (.reg [⟨(some 11), .op (.mv (.tmp 0)), none⟩,
    ⟨(some 12), .op (.mv (.tmp 1)), none⟩,
    ⟨(some 13), .op (.mv (.tmp 2)), none⟩,
    ⟨(some 14), .call (.func i_spec_l00Own) [(.tmp 13)], none⟩,
    ⟨(some 15), .op (.build [Value.pointer none, Value.int .i64 0, Value.slice none 0 0, Value.slice none 0 0] [(0, 1, (.tmp 11)), (1, 1, (.tmp 12)), (2, 1, (.tmp 14))]), none⟩,
    ⟨(some 16), .op (.box false (.tmp 15)), none⟩,
    ⟨(some 9), .op (.mv (.tmp 16)), none⟩]) (.kill [0, 1, 2, 11, 12, 13, 14, 15, 16]))
  (.seq (.seq (.reg [⟨(some 10), .op (.mv (.const (Value.int .i64 0))), none⟩])
  (.post (.block 0 (.ghost .nv lo_spec_l06Reads_0)) .nv))
  (.ghost (.kill [3, 10]) (.seq (.post (.reg [⟨(some 28), .op (.mv (.tmp 9)), none⟩,
    ⟨(some 8), .op (.mv (.tmp 28)), none⟩]) (.kill [9, 28]))
  .ret)))))
theorem cf_spec_l06Reads : chkFn Try.prog i_spec_l06Reads ac_spec_l06Reads [.tmp 8] 29 = true := by decide +kernel
def fa_spec_l06Reads : FnA := ⟨ac_spec_l06Reads, [.tmp 8], 29, false, false, [], .any⟩

/-- The checked code of spec Rewrite. -/
def ac_spec_Rewrite : AC := (.seq (.post (.reg [⟨(some 2), .op (.box true (.tmp 0)), none⟩,
    ⟨(some 4), .op (.mv (.const (Value.string ⟨#[]⟩))), none⟩,
    ⟨(some 5), .op (.mv (.const (Value.int .i64 0))), none⟩]) (.kill [0, 4, 5]))
  (.seq (.seq (.post (.reg [⟨(some 7), .call (.func i_spec_l06Ok) [(.tmp 2)], none⟩,
    ⟨(some 8), .op (.un .not (.tmp 7)), none⟩,
    ⟨(some 9), .op (.mv (.tmp 8)), none⟩,
    ⟨(some 10), .op (.mv (.tmp 1)), some (9, false)⟩,
    ⟨(some 11), .call (.func i_spec_l01Ok) [(.tmp 10)], some (9, false)⟩,
    ⟨(some 12), .op (.un .not (.tmp 11)), some (9, false)⟩,
    ⟨(some 13), .op (.pick (.tmp 9) (.const (Value.bool true)) (.tmp 12)), none⟩]) (.kill [7, 8, 9, 10, 11, 12]))
  (.cond (.tmp 13) (.ghost (.kill [1, 2, 13]) (.seq (.reg [⟨(some 4), .op (.mv (.const (Value.string ⟨#[]⟩))), none⟩,
    ⟨(some 5), .op (.mv (.const (Value.int .i64 1))), none⟩])
  .ret))
  (.ghost (.kill [13]) .skip)))
  (.seq (.post (.reg [⟨(some 14), .op (.faddr (.tmp 2) 1), none⟩,
    ⟨(some 15), .op (.load 1 false (.tmp 14)), none⟩,
    ⟨(some 16), .op (.lits true 1 0 (Value.int .i64 0) []), none⟩,
    ⟨(some 17), .op (.mv (.tmp 1)), none⟩,
    ⟨(some 18), .call (.func i_spec_l06Reads) [(.tmp 2), (.tmp 15), (.tmp 16), (.tmp 17)], none⟩,
    ⟨(some 6), .op (.mv (.tmp 18)), none⟩]) (.kill [1, 2, 14, 15, 16, 17, 18]))
  (.seq (.seq (.post (.reg [⟨(some 19), .op (.mv (.tmp 6)), none⟩,
    ⟨(some 20), .op (.nilc (.tmp 19)), none⟩,
    ⟨(some 21), .op (.faddr (.tmp 20) 3), none⟩,
    ⟨(some 22), .op (.load 1 false (.tmp 21)), none⟩,
    ⟨(some 23), .op (.len false (.tmp 22)), none⟩,
    ⟨(some 24), .op (.bin .gtr (.tmp 23) (.const (Value.int .i64 60))), none⟩]) (.kill [19, 20, 21, 22, 23]))
  (.cond (.tmp 24) (.ghost (.kill [6, 24]) (.seq (.reg [⟨(some 4), .op (.mv (.const (Value.string ⟨#[]⟩))), none⟩,
    ⟨(some 5), .op (.mv (.const (Value.int .i64 3))), none⟩])
  .ret))
  (.ghost (.kill [24]) .skip)))
  (.seq (.post (.reg [⟨(some 25), .op (.mv (.tmp 6)), none⟩,
    ⟨(some 26), .op (.nilc (.tmp 25)), none⟩,
    ⟨(some 27), .op (.faddr (.tmp 26) 3), none⟩,
    ⟨(some 28), .op (.load 1 false (.tmp 27)), none⟩,
    ⟨(some 29), .op (.b2s (.tmp 28)), none⟩,
    ⟨(some 4), .op (.mv (.tmp 29)), none⟩,
    ⟨(some 5), .op (.mv (.const (Value.int .i64 0))), none⟩]) (.kill [6, 25, 26, 27, 28, 29]))
  .ret)))))
theorem cf_spec_Rewrite : chkFn Try.prog i_spec_Rewrite ac_spec_Rewrite [.tmp 4, .tmp 5] 30 = true := by decide +kernel
def fa_spec_Rewrite : FnA := ⟨ac_spec_Rewrite, [.tmp 4, .tmp 5], 30, false, true, [], .any⟩

/-- The checked code of slices Clone   int64 int64 . -/
def ac_slices_Clone_L_int64 : AC := (.seq (.post (.reg [⟨(some 2), .op (.mv (.const (Value.slice none 0 0))), none⟩]) (.kill [2]))
  (.seq (.seq (.post (.reg [⟨(some 3), .op (.mv (.tmp 0)), none⟩,
    ⟨(some 4), .op (.eqnil false false .s (.tmp 3)), none⟩]) (.kill [3]))
  (.cond (.tmp 4) (.ghost (.kill [0, 4]) (.seq (.reg [⟨(some 2), .op (.mv (.const (Value.slice none 0 0))), none⟩])
  .ret))
  (.ghost (.kill [4]) .skip)))
  (.seq (.post (.post (.reg [⟨(some 5), .op (.lits true 1 0 (Value.int .i64 0) []), none⟩,
    ⟨(some 6), .op (.mv (.tmp 0)), none⟩,
    ⟨(some 7), .op (.append (.tmp 5) (.tmp 6) 1 8), none⟩,
    ⟨(some 2), .op (.mv (.tmp 7)), none⟩]) (.kill [0, 5, 6, 7])) .nv)
  .ret)))
theorem cf_slices_Clone_L_int64 : chkFn Try.prog i_slices_Clone_L_int64 ac_slices_Clone_L_int64 [.tmp 2] 8 = true := by decide +kernel
def fa_slices_Clone_L_int64 : FnA := ⟨ac_slices_Clone_L_int64, [.tmp 2], 8, false, false, [], .any⟩

/-- The checked code of impl kindOf. -/
def ac_impl_kindOf : AC := (.seq (.post (.reg [⟨(some 2), .op (.mv (.const (Value.int .i64 0))), none⟩]) (.kill [2]))
  (.seq (.post (.reg [⟨(some 3), .op (.mv (.tmp 0)), none⟩,
    ⟨(some 4), .call (.func i_strings_IndexByte) [(.const (Value.string ⟨#[40, 91, 41, 93, 97, 98]⟩)), (.tmp 3)], none⟩,
    ⟨(some 5), .op (.bin .rem (.tmp 4) (.const (Value.int .i64 2))), none⟩,
    ⟨(some 2), .op (.mv (.tmp 5)), none⟩]) (.kill [0, 3, 4, 5]))
  .ret))
theorem cf_impl_kindOf : chkFn Try.prog i_impl_kindOf ac_impl_kindOf [.tmp 2] 6 = true := by decide +kernel
def fa_impl_kindOf : FnA := ⟨ac_impl_kindOf, [.tmp 2], 6, false, true, [], .any⟩

/-- The checked code of impl isInner. -/
def ac_impl_isInner : AC := (.seq (.post (.reg [⟨(some 2), .op (.mv (.const (Value.bool false))), none⟩]) (.kill [2]))
  (.seq (.post (.reg [⟨(some 3), .op (.mv (.tmp 0)), none⟩,
    ⟨(some 4), .op (.bin .eql (.tmp 3) (.const (Value.int .u8 97))), none⟩,
    ⟨(some 5), .op (.mv (.tmp 4)), none⟩,
    ⟨(some 6), .op (.mv (.tmp 0)), some (5, false)⟩,
    ⟨(some 7), .op (.bin .eql (.tmp 6) (.const (Value.int .u8 98))), some (5, false)⟩,
    ⟨(some 8), .op (.pick (.tmp 5) (.const (Value.bool true)) (.tmp 7)), none⟩,
    ⟨(some 2), .op (.mv (.tmp 8)), none⟩]) (.kill [0, 3, 4, 5, 6, 7, 8]))
  .ret))
theorem cf_impl_isInner : chkFn Try.prog i_impl_isInner ac_impl_isInner [.tmp 2] 9 = true := by decide +kernel
def fa_impl_isInner : FnA := ⟨ac_impl_isInner, [.tmp 2], 9, false, true, [], .any⟩

/-- The checked code of   strings Builder  WriteString. -/
def ac_P_strings_Builder_WriteString : AC := (.seq (.post (.reg [⟨(some 4), .op (.mv (.const (Value.int .i64 0))), none⟩,
    ⟨(some 5), .op (.mv (.const Value.nilIface)), none⟩]) (.kill [4, 5]))
  (.seq (.post (.reg [⟨(some 6), .op (.mv (.tmp 0)), none⟩,
    ⟨(some 7), .call (.func i_P_strings_Builder_copyCheck) [(.tmp 6)], none⟩]) (.kill [6, 7]))
  (.seq (.post (.post (.reg [⟨(some 8), .op (.mv (.tmp 0)), none⟩,
    ⟨(some 9), .op (.mv (.tmp 0)), none⟩,
    ⟨(some 10), .op (.nilc (.tmp 9)), none⟩,
    ⟨(some 11), .op (.faddr (.tmp 10) 1), none⟩,
    ⟨(some 12), .op (.load 1 false (.tmp 11)), none⟩,
    ⟨(some 13), .op (.mv (.tmp 1)), none⟩,
    ⟨(some 14), .op (.append (.tmp 12) (.tmp 13) 1 1), none⟩,
    ⟨(some 15), .op (.nilc (.tmp 8)), none⟩,
    ⟨(some 16), .op (.faddr (.tmp 15) 1), none⟩,
    ⟨none, .op (.store 1 (.tmp 16) (.tmp 14)), none⟩]) (.kill [0, 8, 9, 10, 11, 12, 13, 14, 15, 16])) .nv)
  (.seq (.post (.reg [⟨(some 17), .op (.mv (.tmp 1)), none⟩,
    ⟨(some 18), .op (.len true (.tmp 17)), none⟩,
    ⟨(some 4), .op (.mv (.tmp 18)), none⟩,
    ⟨(some 5), .op (.mv (.const Value.nilIface)), none⟩]) (.kill [1, 17, 18]))
  .ret))))
theorem cf_P_strings_Builder_WriteString : chkFn Try.prog i_P_strings_Builder_WriteString ac_P_strings_Builder_WriteString [.tmp 4, .tmp 5] 19 = true := by decide +kernel
def fa_P_strings_Builder_WriteString : FnA := ⟨ac_P_strings_Builder_WriteString, [.tmp 4, .tmp 5], 19, true, false, [], .any⟩

/-- The checked code of impl Rewriter  rewrite. -/
def lb_impl_Rewriter_rewrite_0 : AC := (.post (.seq (.reg [⟨(some 24), .op (.bin .lss (.tmp 23) (.tmp 22)), none⟩])
  (.seq (.cond (.tmp 24) (.ghost (.kill [24]) .skip)
  (.ghost (.kill [3, 4, 22, 23, 24]) (.exit 0)))
  (.seq (.block 1 (.seq (.post (.reg [⟨(some 25), .op (.mv (.tmp 23)), none⟩,
    ⟨(some 12), .op (.mv (.tmp 25)), none⟩]) (.kill [25]))
  (.seq (.post (.reg [⟨(some 26), .op (.mv (.tmp 3)), none⟩,
    ⟨(some 27), .op (.mv (.tmp 12)), none⟩,
    ⟨(some 28), .op (.idxStr (.tmp 26) (.tmp 27)), none⟩,
    ⟨(some 29), .call (.func i_impl_kindOf) [(.tmp 28)], none⟩,
    ⟨(some 30), .op (.build [Value.int .i64 0, Value.string ⟨#[]⟩] []), none⟩,
    ⟨(some 14), .op (.alloc (Value.agg #[Value.int .i64 0, Value.string ⟨#[]⟩])), none⟩,
    ⟨(some 13), .op (.mv (.tmp 29)), none⟩,
    ⟨none, .op (.store 2 (.tmp 14) (.tmp 30)), none⟩]) (.kill [26, 27, 28, 29, 30]))
  (.seq (.block 2 (.seq (.post (.reg [⟨(some 58), .op (.mv (.tmp 3)), none⟩,
    ⟨(some 59), .op (.mv (.tmp 12)), none⟩,
    ⟨(some 60), .op (.idxStr (.tmp 58) (.tmp 59)), none⟩,
    ⟨(some 61), .call (.func i_impl_isCall) [(.tmp 60)], none⟩,
    ⟨(some 57), .op (.mv (.tmp 61)), none⟩]) (.kill [58, 59, 60, 61]))
  (.cond (.tmp 57) (.ghost (.kill [12, 57]) (.seq (.post (.reg [⟨(some 62), .op (.faddr (.tmp 4) 2), none⟩,
    ⟨(some 63), .op (.load 1 false (.tmp 62)), none⟩,
    ⟨(some 64), .op (.mv (.tmp 1)), none⟩,
    ⟨(some 65), .op (.iaddrS (.tmp 63) (.tmp 64) 1), none⟩,
    ⟨(some 66), .op (.load 1 false (.tmp 65)), none⟩,
    ⟨(some 67), .op (.mv (.tmp 13)), none⟩,
    ⟨(some 68), .op (.iaddrS (.tmp 66) (.tmp 67) 3), none⟩,
    ⟨(some 69), .op (.load 3 true (.tmp 68)), none⟩,
    ⟨(some 15), .op (.alloc (Value.agg #[Value.int .i64 0, Value.int .i64 0, Value.string ⟨#[]⟩])), none⟩,
    ⟨none, .op (.store 3 (.tmp 15) (.tmp 69)), none⟩]) (.kill [1, 13, 62, 63, 64, 65, 66, 67, 68, 69]))
  (.post (.post (.draw [⟨0, ⟨(some 70), .op (.faddr (.tmp 15) 0), none⟩, []⟩,
    ⟨1, ⟨(some 71), .op (.load 1 false (.tmp 70)), none⟩, []⟩,
    ⟨2, ⟨(some 72), .op (.faddr (.tmp 15) 2), none⟩, []⟩,
    ⟨3, ⟨(some 73), .op (.load 1 false (.tmp 72)), none⟩, []⟩,
    ⟨4, ⟨(some 74), .op (.build [Value.int .i64 0, Value.string ⟨#[]⟩] [(0, 1, (.tmp 71)), (1, 1, (.tmp 73))]), none⟩, []⟩,
    ⟨5, ⟨(some 75), .op (.mv (.tmp 2)), none⟩, []⟩,
    ⟨6, ⟨(some 76), .op (.faddr (.tmp 15) 1), none⟩, []⟩,
    ⟨7, ⟨(some 77), .op (.load 1 false (.tmp 76)), none⟩, []⟩,
    ⟨8, ⟨(some 78), .op (.lits true 1 1 (Value.int .i64 0) [(0, (.tmp 77))]), none⟩, []⟩,
    ⟨9, ⟨(some 79), .op (.append (.tmp 75) (.tmp 78) 1 8), none⟩, [1, 3]⟩,
    ⟨10, ⟨none, .op (.store 2 (.tmp 14) (.tmp 74)), none⟩, []⟩,
    ⟨11, ⟨(some 2), .op (.mv (.tmp 79)), none⟩, []⟩]
    [0, 1, 0, 4, 15, 0, 0, 64, 192, 480, 1023, 2047]) (.kill [15, 70, 71, 72, 73, 74, 75, 76, 77, 78, 79])) .nv)))
  (.ghost (.kill [57]) (.seq (.post (.reg [⟨(some 81), .op (.mv (.tmp 3)), none⟩,
    ⟨(some 82), .op (.mv (.tmp 12)), none⟩,
    ⟨(some 83), .op (.idxStr (.tmp 81) (.tmp 82)), none⟩,
    ⟨(some 84), .call (.func i_impl_isInner) [(.tmp 83)], none⟩,
    ⟨(some 80), .op (.mv (.tmp 84)), none⟩]) (.kill [12, 81, 82, 83, 84]))
  (.cond (.tmp 80) (.ghost (.kill [80]) (.post (.reg [⟨(some 85), .op (.faddr (.tmp 4) 4), none⟩,
    ⟨(some 86), .op (.load 1 false (.tmp 85)), none⟩,
    ⟨(some 87), .op (.mv (.tmp 1)), none⟩,
    ⟨(some 88), .op (.iaddrS (.tmp 86) (.tmp 87) 1), none⟩,
    ⟨(some 89), .op (.load 1 false (.tmp 88)), none⟩,
    ⟨(some 90), .op (.mv (.tmp 13)), none⟩,
    ⟨(some 91), .op (.iaddrS (.tmp 89) (.tmp 90) 2), none⟩,
    ⟨(some 92), .op (.load 2 true (.tmp 91)), none⟩,
    ⟨none, .op (.store 2 (.tmp 14) (.tmp 92)), none⟩]) (.kill [1, 13, 85, 86, 87, 88, 89, 90, 91, 92])))
  (.ghost (.kill [80]) (.seq (.post (.reg [⟨(some 31), .op (.faddr (.tmp 4) 0), none⟩,
    ⟨(some 32), .op (.load 1 false (.tmp 31)), none⟩,
    ⟨(some 16), .op (.mv (.tmp 32)), none⟩]) (.kill [31, 32]))
  (.seq (.seq (.post (.reg [⟨(some 33), .op (.mv (.tmp 2)), none⟩,
    ⟨(some 34), .op (.len false (.tmp 33)), none⟩,
    ⟨(some 17), .op (.mv (.tmp 34)), none⟩]) (.kill [33, 34]))
  (.seq (.post (.reg [⟨(some 35), .op (.mv (.tmp 17)), none⟩,
    ⟨(some 36), .op (.bin .gtr (.tmp 35) (.const (Value.int .i64 0))), none⟩]) (.kill [35]))
  (.cond (.tmp 36) (.ghost (.kill [16, 36]) (.post (.post (.draw [⟨0, ⟨(some 37), .op (.mv (.tmp 2)), none⟩, []⟩,
    ⟨1, ⟨(some 38), .op (.mv (.tmp 17)), none⟩, []⟩,
    ⟨2, ⟨(some 39), .op (.bin .sub (.tmp 38) (.const (Value.int .i64 1))), none⟩, []⟩,
    ⟨3, ⟨(some 40), .op (.iaddrS (.tmp 37) (.tmp 39) 1), none⟩, []⟩,
    ⟨4, ⟨(some 41), .op (.load 1 false (.tmp 40)), none⟩, []⟩,
    ⟨5, ⟨(some 42), .op (.mv (.tmp 2)), none⟩, []⟩,
    ⟨6, ⟨(some 43), .op (.mv (.tmp 17)), none⟩, []⟩,
    ⟨7, ⟨(some 44), .op (.bin .sub (.tmp 43) (.const (Value.int .i64 1))), none⟩, []⟩,
    ⟨8, ⟨(some 45), .op (.slcS (.tmp 42) none (some (.tmp 44)) none 1), none⟩, []⟩,
    ⟨9, ⟨(some 16), .op (.mv (.tmp 41)), none⟩, []⟩,
    ⟨10, ⟨(some 2), .op (.mv (.tmp 45)), none⟩, []⟩]
    [0, 0, 2, 7, 15, 0, 0, 64, 224, 31, 1023]) (.kill [17, 37, 38, 39, 40, 41, 42, 43, 44, 45])) .nv))
  (.ghost (.kill [17, 36]) .skip))))
  (.post (.reg [⟨(some 46), .op (.faddr (.tmp 4) 3), none⟩,
    ⟨(some 47), .op (.load 1 false (.tmp 46)), none⟩,
    ⟨(some 48), .op (.mv (.tmp 1)), none⟩,
    ⟨(some 49), .op (.iaddrS (.tmp 47) (.tmp 48) 1), none⟩,
    ⟨(some 50), .op (.load 1 false (.tmp 49)), none⟩,
    ⟨(some 51), .op (.mv (.tmp 13)), none⟩,
    ⟨(some 52), .op (.iaddrS (.tmp 50) (.tmp 51) 1), none⟩,
    ⟨(some 53), .op (.load 1 false (.tmp 52)), none⟩,
    ⟨(some 54), .op (.mv (.tmp 16)), none⟩,
    ⟨(some 55), .op (.iaddrS (.tmp 53) (.tmp 54) 2), none⟩,
    ⟨(some 56), .op (.load 2 true (.tmp 55)), none⟩,
    ⟨none, .op (.store 2 (.tmp 14) (.tmp 56)), none⟩]) (.kill [1, 13, 16, 46, 47, 48, 49, 50, 51, 52, 53, 54, 55, 56])))))))))))
  (.seq (.post (.reg [⟨(some 93), .op (.faddr (.tmp 14) 1), none⟩,
    ⟨(some 94), .op (.load 1 false (.tmp 93)), none⟩,
    ⟨(some 95), .call (.func i_P_strings_Builder_WriteString) [(.tmp 11), (.tmp 94)], none⟩]) (.kill [93, 94, 95]))
  (.post (.reg [⟨(some 96), .op (.faddr (.tmp 14) 0), none⟩,
    ⟨(some 97), .op (.load 1 false (.tmp 96)), none⟩,
    ⟨(some 1), .op (.mv (.tmp 97)), none⟩]) (.kill [14, 96, 97])))))))
  (.post (.reg [⟨(some 98), .op (.bin .add (.tmp 23) (.const (Value.int .i64 1))), none⟩,
    ⟨(some 23), .op (.mv (.tmp 98)), none⟩]) (.kill [98]))))) .nv)
def lo_impl_Rewriter_rewrite_0 : AC := (.loop lb_impl_Rewriter_rewrite_0)
def ac_impl_Rewriter_rewrite : AC := (.seq (.post (.reg [⟨(some 4), .op (.box true (.tmp 0)), none⟩,
    ⟨(some 8), .op (.mv (.const (Value.int .i64 0))), none⟩,
    ⟨(some 9), .op (.mv (.const (Value.slice none 0 0))), none⟩,
    ⟨(some 10), .op (.mv (.const (Value.string ⟨#[]⟩))), none⟩]) (.kill [0, 8, 9, 10]))
  (.seq (.post (.reg [⟨(some 18), .op (.mv (.tmp 2)), none⟩,
    ⟨(some 19), .call (.func i_slices_Clone_L_int64) [(.tmp 18)], none⟩,
    ⟨(some 20), .op (.build [Value.pointer none, Value.slice none 0 0] []), none⟩,
    ⟨(some 11), .op (.alloc (Value.agg #[Value.pointer none, Value.slice none 0 0])), none⟩,
    ⟨(some 2), .op (.mv (.tmp 19)), none⟩,
    ⟨none, .op (.store 2 (.tmp 11) (.tmp 20)), none⟩]) (.kill [18, 19, 20]))
  (.seq (.seq (.post (.reg [⟨(some 21), .op (.mv (.tmp 3)), none⟩,
    ⟨(some 22), .op (.len true (.tmp 21)), none⟩,
    ⟨(some 23), .op (.mv (.const (Value.int .i64 0))), none⟩]) (.kill [21]))
  (.post (.block 0 (.ghost (.ow 2 none 1) (.ghost .nv lo_impl_Rewriter_rewrite_0))) .nv))
  (.ghost (.kill [3, 4, 22, 23]) (.seq (.post (.reg [⟨(some 99), .op (.mv (.tmp 1)), none⟩,
    ⟨(some 100), .op (.mv (.tmp 2)), none⟩,
    ⟨(some 101), .call (.func i_P_strings_Builder_String) [(.tmp 11)], none⟩,
    ⟨(some 8), .op (.mv (.tmp 99)), none⟩,
    ⟨(some 9), .op (.mv (.tmp 100)), none⟩,
    ⟨(some 10), .op (.mv (.tmp 101)), none⟩]) (.kill [1, 2, 11, 99, 100, 101]))
  .ret)))))
theorem cf_impl_Rewriter_rewrite : chkFn Try.prog i_impl_Rewriter_rewrite ac_impl_Rewriter_rewrite [.tmp 8, .tmp 9, .tmp 10] 102 = true := by decide +kernel
def fa_impl_Rewriter_rewrite : FnA := ⟨ac_impl_Rewriter_rewrite, [.tmp 8, .tmp 9, .tmp 10], 102, false, true, [], .any⟩

/-- The checked code of impl Rewrite. -/
def ac_impl_Rewrite : AC := (.seq (.post (.reg [⟨(some 2), .op (.box true (.tmp 0)), none⟩,
    ⟨(some 4), .op (.mv (.const (Value.string ⟨#[]⟩))), none⟩,
    ⟨(some 5), .op (.mv (.const (Value.int .i64 0))), none⟩]) (.kill [0, 4, 5]))
  (.seq (.seq (.post (.reg [⟨(some 9), .op (.load 5 true (.tmp 2)), none⟩,
    ⟨(some 10), .call (.func i_impl_ValidRewriter) [(.tmp 9)], none⟩,
    ⟨(some 11), .op (.un .not (.tmp 10)), none⟩,
    ⟨(some 12), .op (.mv (.tmp 11)), none⟩,
    ⟨(some 13), .op (.mv (.tmp 1)), some (12, false)⟩,
    ⟨(some 14), .call (.func i_impl_ValidWord) [(.tmp 13)], some (12, false)⟩,
    ⟨(some 15), .op (.un .not (.tmp 14)), some (12, false)⟩,
    ⟨(some 16), .op (.pick (.tmp 12) (.const (Value.bool true)) (.tmp 15)), none⟩]) (.kill [9, 10, 11, 12, 13, 14, 15]))
  (.cond (.tmp 16) (.ghost (.kill [1, 2, 16]) (.seq (.reg [⟨(some 4), .op (.mv (.const (Value.string ⟨#[]⟩))), none⟩,
    ⟨(some 5), .op (.mv (.const (Value.int .i64 1))), none⟩])
  .ret))
  (.ghost (.kill [16]) .skip)))
  (.seq (.post (.reg [⟨(some 18), .op (.load 5 true (.tmp 2)), none⟩,
    ⟨(some 19), .op (.faddr (.tmp 2) 1), none⟩,
    ⟨(some 20), .op (.load 1 false (.tmp 19)), none⟩,
    ⟨(some 21), .op (.mv (.tmp 1)), none⟩,
    ⟨(some 22), .call (.func i_impl_Rewriter_rewrite) [(.tmp 18), (.tmp 20), (.const (Value.slice none 0 0)), (.tmp 21)], none⟩,
    ⟨(some 17), .op (.mv (.tmp 22)), none⟩,
    ⟨(some 23), .op (.ext (.tmp 17) 0), none⟩,
    ⟨(some 24), .op (.ext (.tmp 17) 1), none⟩,
    ⟨(some 25), .op (.ext (.tmp 17) 2), none⟩,
    ⟨(some 6), .op (.mv (.tmp 23)), none⟩,
    ⟨(some 7), .op (.mv (.tmp 24)), none⟩,
    ⟨(some 8), .op (.mv (.tmp 25)), none⟩]) (.kill [1, 2, 6, 7, 17, 18, 19, 20, 21, 22, 23, 24, 25]))
  (.seq (.post (.reg [⟨(some 26), .op (.mv (.tmp 8)), none⟩,
    ⟨(some 27), .call (.func i_impl_orLimit) [(.tmp 26)], none⟩,
    ⟨(some 28), .op (.ext (.tmp 27) 0), none⟩,
    ⟨(some 29), .op (.ext (.tmp 27) 1), none⟩,
    ⟨(some 4), .op (.mv (.tmp 28)), none⟩,
    ⟨(some 5), .op (.mv (.tmp 29)), none⟩]) (.kill [8, 26, 27, 28, 29]))
  .ret))))
theorem cf_impl_Rewrite : chkFn Try.prog i_impl_Rewrite ac_impl_Rewrite [.tmp 4, .tmp 5] 30 = true := by decide +kernel
def fa_impl_Rewrite : FnA := ⟨ac_impl_Rewrite, [.tmp 4, .tmp 5], 30, false, true, [], .any⟩

/-- The checked code of laws FnExactRewrite. -/
def ac_laws_FnExactRewrite : AC := (.seq (.post (.reg [⟨(some 2), .op (.box true (.tmp 0)), none⟩,
    ⟨(some 4), .op (.mv (.const (Value.bool false))), none⟩]) (.kill [0, 4]))
  (.seq (.seq (.post (.reg [⟨(some 11), .op (.mv (.tmp 1)), none⟩,
    ⟨(some 12), .op (.len true (.tmp 11)), none⟩,
    ⟨(some 13), .op (.bin .gtr (.tmp 12) (.const (Value.int .i64 1048576))), none⟩]) (.kill [11, 12]))
  (.cond (.tmp 13) (.ghost (.kill [1, 2, 13]) (.seq (.reg [⟨(some 4), .op (.mv (.const (Value.bool true))), none⟩])
  .ret))
  (.ghost (.kill [13]) .skip)))
  (.seq (.reg [⟨(some 5), .op (.mv (.const (Value.int .i64 1048576))), none⟩])
  (.seq (.post (.reg [⟨(some 14), .op (.load 5 true (.tmp 2)), none⟩,
    ⟨(some 15), .op (.mv (.tmp 5)), none⟩,
    ⟨(some 16), .call (.func i_laws_szRewriter) [(.tmp 14), (.tmp 15)], none⟩,
    ⟨(some 5), .op (.mv (.tmp 16)), none⟩]) (.kill [14, 15, 16]))
  (.seq (.seq (.post (.reg [⟨(some 17), .op (.mv (.tmp 5)), none⟩,
    ⟨(some 18), .op (.bin .lss (.tmp 17) (.const (Value.int .i64 0))), none⟩]) (.kill [5, 17]))
  (.cond (.tmp 18) (.ghost (.kill [1, 2, 18]) (.seq (.reg [⟨(some 4), .op (.mv (.const (Value.bool true))), none⟩])
  .ret))
  (.ghost (.kill [18]) .skip)))
  (.seq (.post (.reg [⟨(some 20), .op (.load 5 true (.tmp 2)), none⟩,
    ⟨(some 21), .call (.func i_laws_toRewriter) [(.tmp 20)], none⟩,
    ⟨(some 22), .op (.mv (.tmp 1)), none⟩,
    ⟨(some 23), .call (.func i_spec_Rewrite) [(.tmp 21), (.tmp 22)], none⟩,
    ⟨(some 19), .op (.mv (.tmp 23)), none⟩,
    ⟨(some 24), .op (.ext (.tmp 19) 0), none⟩,
    ⟨(some 25), .op (.ext (.tmp 19) 1), none⟩,
    ⟨(some 6), .op (.mv (.tmp 24)), none⟩,
    ⟨(some 7), .op (.mv (.tmp 25)), none⟩]) (.kill [19, 20, 21, 22, 23, 24, 25]))
  (.seq (.post (.reg [⟨(some 26), .op (.load 5 true (.tmp 2)), none⟩,
    ⟨(some 27), .call (.func i_laws_toRewriter) [(.tmp 26)], none⟩,
    ⟨(some 8), .op (.alloc (Value.agg #[Value.int .i64 0, Value.int .i64 0, Value.slice none 0 0, Value.slice none 0 0, Value.slice none 0 0])), none⟩,
    ⟨none, .op (.store 5 (.tmp 8) (.tmp 27)), none⟩]) (.kill [26, 27]))
  (.seq (.post (.reg [⟨(some 29), .op (.load 5 true (.tmp 8)), none⟩,
    ⟨(some 30), .op (.mv (.tmp 1)), none⟩,
    ⟨(some 31), .call (.func i_impl_Rewrite) [(.tmp 29), (.tmp 30)], none⟩,
    ⟨(some 28), .op (.mv (.tmp 31)), none⟩,
    ⟨(some 32), .op (.ext (.tmp 28) 0), none⟩,
    ⟨(some 33), .op (.ext (.tmp 28) 1), none⟩,
    ⟨(some 9), .op (.mv (.tmp 32)), none⟩,
    ⟨(some 10), .op (.mv (.tmp 33)), none⟩]) (.kill [1, 28, 29, 30, 31, 32, 33]))
  (.seq (.seq (.post (.reg [⟨(some 34), .op (.mv (.tmp 9)), none⟩,
    ⟨(some 35), .op (.mv (.tmp 6)), none⟩,
    ⟨(some 36), .op (.bin .neq (.tmp 34) (.tmp 35)), none⟩,
    ⟨(some 37), .op (.mv (.tmp 36)), none⟩,
    ⟨(some 38), .op (.mv (.tmp 10)), some (37, false)⟩,
    ⟨(some 39), .op (.mv (.tmp 7)), some (37, false)⟩,
    ⟨(some 40), .op (.bin .neq (.tmp 38) (.tmp 39)), some (37, false)⟩,
    ⟨(some 41), .op (.pick (.tmp 37) (.const (Value.bool true)) (.tmp 40)), none⟩]) (.kill [6, 7, 9, 10, 34, 35, 36, 37, 38, 39, 40]))
  (.cond (.tmp 41) (.ghost (.kill [2, 8, 41]) (.seq (.reg [⟨(some 4), .op (.mv (.const (Value.bool false))), none⟩])
  .ret))
  (.ghost (.kill [41]) .skip)))
  (.seq (.seq (.post (.draw [⟨0, ⟨(some 42), .op (.load 5 true (.tmp 8)), none⟩, []⟩,
    ⟨1, ⟨(some 43), .op (.load 5 true (.tmp 2)), none⟩, []⟩,
    ⟨2, ⟨(some 44), .call (.func i_laws_toRewriter) [(.tmp 43)], none⟩, [0]⟩,
    ⟨3, ⟨(some 45), .call (.func i_laws_eqRewriter) [(.tmp 42), (.tmp 44)], none⟩, []⟩,
    ⟨4, ⟨(some 46), .op (.un .not (.tmp 45)), none⟩, []⟩]
    [0, 0, 2, 7, 15]) (.kill [2, 8, 42, 43, 44, 45]))
  (.cond (.tmp 46) (.ghost (.kill [46]) (.seq (.reg [⟨(some 4), .op (.mv (.const (Value.bool false))), none⟩])
  .ret))
  (.ghost (.kill [46]) .skip)))
  (.seq (.reg [⟨(some 4), .op (.mv (.const (Value.bool true))), none⟩])
  .ret)))))))))))
theorem cf_laws_FnExactRewrite : chkFn Try.prog i_laws_FnExactRewrite ac_laws_FnExactRewrite [.tmp 4] 47 = true := by decide +kernel
def fa_laws_FnExactRewrite : FnA := ⟨ac_laws_FnExactRewrite, [.tmp 4], 47, false, true, [], .any⟩

/-- The checked code of laws szBoolS. -/
def ac_laws_szBoolS : AC := (.seq (.post (.reg [⟨(some 4), .op (.mv (.const (Value.int .i64 0))), none⟩]) (.kill [4]))
  (.seq (.post (.reg [⟨(some 5), .op (.mv (.tmp 1)), none⟩,
    ⟨(some 6), .op (.mv (.tmp 0)), none⟩,
    ⟨(some 7), .op (.len false (.tmp 6)), none⟩,
    ⟨(some 8), .op (.bin .sub (.tmp 5) (.tmp 7)), none⟩,
    ⟨(some 1), .op (.mv (.tmp 8)), none⟩]) (.kill [0, 5, 6, 7, 8]))
  (.seq (.seq (.post (.reg [⟨(some 9), .op (.mv (.tmp 1)), none⟩,
    ⟨(some 10), .op (.bin .lss (.tmp 9) (.const (Value.int .i64 0))), none⟩]) (.kill [9]))
  (.cond (.tmp 10) (.ghost (.kill [1, 10]) (.seq (.reg [⟨(some 4), .op (.mv (.const (Value.int .i64 (-1)))), none⟩])
  .ret))
  (.ghost (.kill [10]) .skip)))
  (.seq (.post (.reg [⟨(some 11), .op (.mv (.tmp 1)), none⟩,
    ⟨(some 4), .op (.mv (.tmp 11)), none⟩]) (.kill [1, 11]))
  .ret))))
theorem cf_laws_szBoolS : chkFn Try.prog i_laws_szBoolS ac_laws_szBoolS [.tmp 4] 12 = true := by decide +kernel
def fa_laws_szBoolS : FnA := ⟨ac_laws_szBoolS, [.tmp 4], 12, false, true, [], .any⟩

/-- The checked code of laws szPushS. -/
def ac_laws_szPushS : AC := (.seq (.post (.reg [⟨(some 4), .op (.mv (.const (Value.int .i64 0))), none⟩]) (.kill [4]))
  (.seq (.post (.reg [⟨(some 5), .op (.mv (.tmp 1)), none⟩,
    ⟨(some 6), .op (.mv (.tmp 0)), none⟩,
    ⟨(some 7), .op (.len false (.tmp 6)), none⟩,
    ⟨(some 8), .op (.bin .sub (.tmp 5) (.tmp 7)), none⟩,
    ⟨(some 1), .op (.mv (.tmp 8)), none⟩]) (.kill [0, 5, 6, 7, 8]))
  (.seq (.seq (.post (.reg [⟨(some 9), .op (.mv (.tmp 1)), none⟩,
    ⟨(some 10), .op (.bin .lss (.tmp 9) (.const (Value.int .i64 0))), none⟩]) (.kill [9]))
  (.cond (.tmp 10) (.ghost (.kill [1, 10]) (.seq (.reg [⟨(some 4), .op (.mv (.const (Value.int .i64 (-1)))), none⟩])
  .ret))
  (.ghost (.kill [10]) .skip)))
  (.seq (.post (.reg [⟨(some 11), .op (.mv (.tmp 1)), none⟩,
    ⟨(some 4), .op (.mv (.tmp 11)), none⟩]) (.kill [1, 11]))
  .ret))))
theorem cf_laws_szPushS : chkFn Try.prog i_laws_szPushS ac_laws_szPushS [.tmp 4] 12 = true := by decide +kernel
def fa_laws_szPushS : FnA := ⟨ac_laws_szPushS, [.tmp 4], 12, false, true, [], .any⟩

/-- The checked code of laws szPushSS. -/
def lb_laws_szPushSS_0 : AC := (.seq (.seq (.post (.reg [⟨(some 12), .op (.mv (.tmp 5)), none⟩,
    ⟨(some 13), .op (.mv (.tmp 0)), none⟩,
    ⟨(some 14), .op (.len false (.tmp 13)), none⟩,
    ⟨(some 15), .op (.bin .lss (.tmp 12) (.tmp 14)), none⟩]) (.kill [12, 13, 14]))
  (.cond (.tmp 15) (.ghost (.kill [15]) .skip)
  (.ghost (.kill [0, 5, 15]) (.exit 0))))
  (.seq (.block 1 (.seq (.post (.reg [⟨(some 18), .op (.mv (.tmp 0)), none⟩,
    ⟨(some 19), .op (.mv (.tmp 5)), none⟩,
    ⟨(some 20), .op (.iaddrS (.tmp 18) (.tmp 19) 1), none⟩,
    ⟨(some 21), .op (.load 1 false (.tmp 20)), none⟩,
    ⟨(some 22), .op (.mv (.tmp 1)), none⟩,
    ⟨(some 23), .call (.func i_laws_szPushS) [(.tmp 21), (.tmp 22)], none⟩,
    ⟨(some 1), .op (.mv (.tmp 23)), none⟩]) (.kill [18, 19, 20, 21, 22, 23]))
  (.seq (.post (.reg [⟨(some 24), .op (.mv (.tmp 1)), none⟩,
    ⟨(some 25), .op (.bin .lss (.tmp 24) (.const (Value.int .i64 0))), none⟩]) (.kill [24]))
  (.cond (.tmp 25) (.ghost (.kill [0, 1, 5, 25]) (.seq (.reg [⟨(some 4), .op (.mv (.const (Value.int .i64 (-1)))), none⟩])
  .ret))
  (.ghost (.kill [25]) .skip)))))
  (.post (.reg [⟨(some 16), .op (.mv (.tmp 5)), none⟩,
    ⟨(some 17), .op (.bin .add (.tmp 16) (.const (Value.int .i64 1))), none⟩,
    ⟨(some 5), .op (.mv (.tmp 17)), none⟩]) (.kill [16, 17]))))
def lo_laws_szPushSS_0 : AC := (.loop lb_laws_szPushSS_0)
def ac_laws_szPushSS : AC := (.seq (.post (.reg [⟨(some 4), .op (.mv (.const (Value.int .i64 0))), none⟩]) (.kill [4]))
  (.seq (.post (.reg [⟨(some 6), .op (.mv (.tmp 1)), none⟩,
    ⟨(some 7), .op (.mv (.tmp 0)), none⟩,
    ⟨(some 8), .op (.len false (.tmp 7)), none⟩,
    ⟨(some 9), .op (.bin .sub (.tmp 6) (.tmp 8)), none⟩,
    ⟨(some 1), .op (.mv (.tmp 9)), none⟩]) (.kill [6, 7, 8, 9]))
  (.seq (.seq (.post (.reg [⟨(some 10), .op (.mv (.tmp 1)), none⟩,
    ⟨(some 11), .op (.bin .lss (.tmp 10) (.const (Value.int .i64 0))), none⟩]) (.kill [10]))
  (.cond (.tmp 11) (.ghost (.kill [0, 1, 11]) (.seq (.reg [⟨(some 4), .op (.mv (.const (Value.int .i64 (-1)))), none⟩])
  .ret))
  (.ghost (.kill [11]) .skip)))
  (.seq (.seq (.reg [⟨(some 5), .op (.mv (.const (Value.int .i64 0))), none⟩])
  (.block 0 lo_laws_szPushSS_0))
  (.ghost (.kill [0, 5]) (.seq (.post (.reg [⟨(some 26), .op (.mv (.tmp 1)), none⟩,
    ⟨(some 4), .op (.mv (.tmp 26)), none⟩]) (.kill [1, 26]))
  .ret))))))
theorem cf_laws_szPushSS : chkFn Try.prog i_laws_szPushSS ac_laws_szPushSS [.tmp 4] 27 = true := by decide +kernel
def fa_laws_szPushSS : FnA := ⟨ac_laws_szPushSS, [.tmp 4], 27, false, true, [], .any⟩

/-- The checked code of laws szInt64S. -/
def ac_laws_szInt64S : AC := (.seq (.post (.reg [⟨(some 4), .op (.mv (.const (Value.int .i64 0))), none⟩]) (.kill [4]))
  (.seq (.post (.reg [⟨(some 5), .op (.mv (.tmp 1)), none⟩,
    ⟨(some 6), .op (.mv (.tmp 0)), none⟩,
    ⟨(some 7), .op (.len false (.tmp 6)), none⟩,
    ⟨(some 8), .op (.bin .sub (.tmp 5) (.tmp 7)), none⟩,
    ⟨(some 1), .op (.mv (.tmp 8)), none⟩]) (.kill [0, 5, 6, 7, 8]))
  (.seq (.seq (.post (.reg [⟨(some 9), .op (.mv (.tmp 1)), none⟩,
    ⟨(some 10), .op (.bin .lss (.tmp 9) (.const (Value.int .i64 0))), none⟩]) (.kill [9]))
  (.cond (.tmp 10) (.ghost (.kill [1, 10]) (.seq (.reg [⟨(some 4), .op (.mv (.const (Value.int .i64 (-1)))), none⟩])
  .ret))
  (.ghost (.kill [10]) .skip)))
  (.seq (.post (.reg [⟨(some 11), .op (.mv (.tmp 1)), none⟩,
    ⟨(some 4), .op (.mv (.tmp 11)), none⟩]) (.kill [1, 11]))
  .ret))))
theorem cf_laws_szInt64S : chkFn Try.prog i_laws_szInt64S ac_laws_szInt64S [.tmp 4] 12 = true := by decide +kernel
def fa_laws_szInt64S : FnA := ⟨ac_laws_szInt64S, [.tmp 4], 12, false, true, [], .any⟩

/-- The checked code of laws szInt64SS. -/
def lb_laws_szInt64SS_0 : AC := (.seq (.seq (.post (.reg [⟨(some 12), .op (.mv (.tmp 5)), none⟩,
    ⟨(some 13), .op (.mv (.tmp 0)), none⟩,
    ⟨(some 14), .op (.len false (.tmp 13)), none⟩,
    ⟨(some 15), .op (.bin .lss (.tmp 12) (.tmp 14)), none⟩]) (.kill [12, 13, 14]))
  (.cond (.tmp 15) (.ghost (.kill [15]) .skip)
  (.ghost (.kill [0, 5, 15]) (.exit 0))))
  (.seq (.block 1 (.seq (.post (.reg [⟨(some 18), .op (.mv (.tmp 0)), none⟩,
    ⟨(some 19), .op (.mv (.tmp 5)), none⟩,
    ⟨(some 20), .op (.iaddrS (.tmp 18) (.tmp 19) 1), none⟩,
    ⟨(some 21), .op (.load 1 false (.tmp 20)), none⟩,
    ⟨(some 22), .op (.mv (.tmp 1)), none⟩,
    ⟨(some 23), .call (.func i_laws_szInt64S) [(.tmp 21), (.tmp 22)], none⟩,
    ⟨(some 1), .op (.mv (.tmp 23)), none⟩]) (.kill [18, 19, 20, 21, 22, 23]))
  (.seq (.post (.reg [⟨(some 24), .op (.mv (.tmp 1)), none⟩,
    ⟨(some 25), .op (.bin .lss (.tmp 24) (.const (Value.int .i64 0))), none⟩]) (.kill [24]))
  (.cond (.tmp 25) (.ghost (.kill [0, 1, 5, 25]) (.seq (.reg [⟨(some 4), .op (.mv (.const (Value.int .i64 (-1)))), none⟩])
  .ret))
  (.ghost (.kill [25]) .skip)))))
  (.post (.reg [⟨(some 16), .op (.mv (.tmp 5)), none⟩,
    ⟨(some 17), .op (.bin .add (.tmp 16) (.const (Value.int .i64 1))), none⟩,
    ⟨(some 5), .op (.mv (.tmp 17)), none⟩]) (.kill [16, 17]))))
def lo_laws_szInt64SS_0 : AC := (.loop lb_laws_szInt64SS_0)
def ac_laws_szInt64SS : AC := (.seq (.post (.reg [⟨(some 4), .op (.mv (.const (Value.int .i64 0))), none⟩]) (.kill [4]))
  (.seq (.post (.reg [⟨(some 6), .op (.mv (.tmp 1)), none⟩,
    ⟨(some 7), .op (.mv (.tmp 0)), none⟩,
    ⟨(some 8), .op (.len false (.tmp 7)), none⟩,
    ⟨(some 9), .op (.bin .sub (.tmp 6) (.tmp 8)), none⟩,
    ⟨(some 1), .op (.mv (.tmp 9)), none⟩]) (.kill [6, 7, 8, 9]))
  (.seq (.seq (.post (.reg [⟨(some 10), .op (.mv (.tmp 1)), none⟩,
    ⟨(some 11), .op (.bin .lss (.tmp 10) (.const (Value.int .i64 0))), none⟩]) (.kill [10]))
  (.cond (.tmp 11) (.ghost (.kill [0, 1, 11]) (.seq (.reg [⟨(some 4), .op (.mv (.const (Value.int .i64 (-1)))), none⟩])
  .ret))
  (.ghost (.kill [11]) .skip)))
  (.seq (.seq (.reg [⟨(some 5), .op (.mv (.const (Value.int .i64 0))), none⟩])
  (.block 0 lo_laws_szInt64SS_0))
  (.ghost (.kill [0, 5]) (.seq (.post (.reg [⟨(some 26), .op (.mv (.tmp 1)), none⟩,
    ⟨(some 4), .op (.mv (.tmp 26)), none⟩]) (.kill [1, 26]))
  .ret))))))
theorem cf_laws_szInt64SS : chkFn Try.prog i_laws_szInt64SS ac_laws_szInt64SS [.tmp 4] 27 = true := by decide +kernel
def fa_laws_szInt64SS : FnA := ⟨ac_laws_szInt64SS, [.tmp 4], 27, false, true, [], .any⟩

/-- The checked code of laws szInt64SSS. -/
def lb_laws_szInt64SSS_0 : AC := (.seq (.seq (.post (.reg [⟨(some 12), .op (.mv (.tmp 5)), none⟩,
    ⟨(some 13), .op (.mv (.tmp 0)), none⟩,
    ⟨(some 14), .op (.len false (.tmp 13)), none⟩,
    ⟨(some 15), .op (.bin .lss (.tmp 12) (.tmp 14)), none⟩]) (.kill [12, 13, 14]))
  (.cond (.tmp 15) (.ghost (.kill [15]) .skip)
  (.ghost (.kill [0, 5, 15]) (.exit 0))))
  (.seq (.block 1 (.seq (.post (.reg [⟨(some 18), .op (.mv (.tmp 0)), none⟩,
    ⟨(some 19), .op (.mv (.tmp 5)), none⟩,
    ⟨(some 20), .op (.iaddrS (.tmp 18) (.tmp 19) 1), none⟩,
    ⟨(some 21), .op (.load 1 false (.tmp 20)), none⟩,
    ⟨(some 22), .op (.mv (.tmp 1)), none⟩,
    ⟨(some 23), .call (.func i_laws_szInt64SS) [(.tmp 21), (.tmp 22)], none⟩,
    ⟨(some 1), .op (.mv (.tmp 23)), none⟩]) (.kill [18, 19, 20, 21, 22, 23]))
  (.seq (.post (.reg [⟨(some 24), .op (.mv (.tmp 1)), none⟩,
    ⟨(some 25), .op (.bin .lss (.tmp 24) (.const (Value.int .i64 0))), none⟩]) (.kill [24]))
  (.cond (.tmp 25) (.ghost (.kill [0, 1, 5, 25]) (.seq (.reg [⟨(some 4), .op (.mv (.const (Value.int .i64 (-1)))), none⟩])
  .ret))
  (.ghost (.kill [25]) .skip)))))
  (.post (.reg [⟨(some 16), .op (.mv (.tmp 5)), none⟩,
    ⟨(some 17), .op (.bin .add (.tmp 16) (.const (Value.int .i64 1))), none⟩,
    ⟨(some 5), .op (.mv (.tmp 17)), none⟩]) (.kill [16, 17]))))
def lo_laws_szInt64SSS_0 : AC := (.loop lb_laws_szInt64SSS_0)
def ac_laws_szInt64SSS : AC := (.seq (.post (.reg [⟨(some 4), .op (.mv (.const (Value.int .i64 0))), none⟩]) (.kill [4]))
  (.seq (.post (.reg [⟨(some 6), .op (.mv (.tmp 1)), none⟩,
    ⟨(some 7), .op (.mv (.tmp 0)), none⟩,
    ⟨(some 8), .op (.len false (.tmp 7)), none⟩,
    ⟨(some 9), .op (.bin .sub (.tmp 6) (.tmp 8)), none⟩,
    ⟨(some 1), .op (.mv (.tmp 9)), none⟩]) (.kill [6, 7, 8, 9]))
  (.seq (.seq (.post (.reg [⟨(some 10), .op (.mv (.tmp 1)), none⟩,
    ⟨(some 11), .op (.bin .lss (.tmp 10) (.const (Value.int .i64 0))), none⟩]) (.kill [10]))
  (.cond (.tmp 11) (.ghost (.kill [0, 1, 11]) (.seq (.reg [⟨(some 4), .op (.mv (.const (Value.int .i64 (-1)))), none⟩])
  .ret))
  (.ghost (.kill [11]) .skip)))
  (.seq (.seq (.reg [⟨(some 5), .op (.mv (.const (Value.int .i64 0))), none⟩])
  (.block 0 lo_laws_szInt64SSS_0))
  (.ghost (.kill [0, 5]) (.seq (.post (.reg [⟨(some 26), .op (.mv (.tmp 1)), none⟩,
    ⟨(some 4), .op (.mv (.tmp 26)), none⟩]) (.kill [1, 26]))
  .ret))))))
theorem cf_laws_szInt64SSS : chkFn Try.prog i_laws_szInt64SSS ac_laws_szInt64SSS [.tmp 4] 27 = true := by decide +kernel
def fa_laws_szInt64SSS : FnA := ⟨ac_laws_szInt64SSS, [.tmp 4], 27, false, true, [], .any⟩

/-- The checked code of laws szChecker. -/
def ac_laws_szChecker : AC := (.seq (.post (.reg [⟨(some 2), .op (.box true (.tmp 0)), none⟩,
    ⟨(some 4), .op (.mv (.const (Value.int .i64 0))), none⟩]) (.kill [0, 4]))
  (.seq (.post (.reg [⟨(some 5), .op (.faddr (.tmp 2) 2), none⟩,
    ⟨(some 6), .op (.load 1 false (.tmp 5)), none⟩,
    ⟨(some 7), .op (.mv (.tmp 1)), none⟩,
    ⟨(some 8), .call (.func i_laws_szBoolS) [(.tmp 6), (.tmp 7)], none⟩,
    ⟨(some 1), .op (.mv (.tmp 8)), none⟩]) (.kill [5, 6, 7, 8]))
  (.seq (.seq (.post (.reg [⟨(some 9), .op (.mv (.tmp 1)), none⟩,
    ⟨(some 10), .op (.bin .lss (.tmp 9) (.const (Value.int .i64 0))), none⟩]) (.kill [9]))
  (.cond (.tmp 10) (.ghost (.kill [1, 2, 10]) (.seq (.reg [⟨(some 4), .op (.mv (.const (Value.int .i64 (-1)))), none⟩])
  .ret))
  (.ghost (.kill [10]) .skip)))
  (.seq (.post (.reg [⟨(some 11), .op (.faddr (.tmp 2) 3), none⟩,
    ⟨(some 12), .op (.load 1 false (.tmp 11)), none⟩,
    ⟨(some 13), .op (.mv (.tmp 1)), none⟩,
    ⟨(some 14), .call (.func i_laws_szPushSS) [(.tmp 12), (.tmp 13)], none⟩,
    ⟨(some 1), .op (.mv (.tmp 14)), none⟩]) (.kill [11, 12, 13, 14]))
  (.seq (.seq (.post (.reg [⟨(some 15), .op (.mv (.tmp 1)), none⟩,
    ⟨(some 16), .op (.bin .lss (.tmp 15) (.const (Value.int .i64 0))), none⟩]) (.kill [15]))
  (.cond (.tmp 16) (.ghost (.kill [1, 2, 16]) (.seq (.reg [⟨(some 4), .op (.mv (.const (Value.int .i64 (-1)))), none⟩])
  .ret))
  (.ghost (.kill [16]) .skip)))
  (.seq (.post (.reg [⟨(some 17), .op (.faddr (.tmp 2) 4), none⟩,
    ⟨(some 18), .op (.load 1 false (.tmp 17)), none⟩,
    ⟨(some 19), .op (.mv (.tmp 1)), none⟩,
    ⟨(some 20), .call (.func i_laws_szInt64SSS) [(.tmp 18), (.tmp 19)], none⟩,
    ⟨(some 1), .op (.mv (.tmp 20)), none⟩]) (.kill [17, 18, 19, 20]))
  (.seq (.seq (.post (.reg [⟨(some 21), .op (.mv (.tmp 1)), none⟩,
    ⟨(some 22), .op (.bin .lss (.tmp 21) (.const (Value.int .i64 0))), none⟩]) (.kill [21]))
  (.cond (.tmp 22) (.ghost (.kill [1, 2, 22]) (.seq (.reg [⟨(some 4), .op (.mv (.const (Value.int .i64 (-1)))), none⟩])
  .ret))
  (.ghost (.kill [22]) .skip)))
  (.seq (.post (.reg [⟨(some 23), .op (.faddr (.tmp 2) 5), none⟩,
    ⟨(some 24), .op (.load 1 false (.tmp 23)), none⟩,
    ⟨(some 25), .op (.mv (.tmp 1)), none⟩,
    ⟨(some 26), .call (.func i_laws_szInt64SS) [(.tmp 24), (.tmp 25)], none⟩,
    ⟨(some 1), .op (.mv (.tmp 26)), none⟩]) (.kill [2, 23, 24, 25, 26]))
  (.seq (.seq (.post (.reg [⟨(some 27), .op (.mv (.tmp 1)), none⟩,
    ⟨(some 28), .op (.bin .lss (.tmp 27) (.const (Value.int .i64 0))), none⟩]) (.kill [27]))
  (.cond (.tmp 28) (.ghost (.kill [1, 28]) (.seq (.reg [⟨(some 4), .op (.mv (.const (Value.int .i64 (-1)))), none⟩])
  .ret))
  (.ghost (.kill [28]) .skip)))
  (.seq (.post (.reg [⟨(some 29), .op (.mv (.tmp 1)), none⟩,
    ⟨(some 4), .op (.mv (.tmp 29)), none⟩]) (.kill [1, 29]))
  .ret))))))))))
theorem cf_laws_szChecker : chkFn Try.prog i_laws_szChecker ac_laws_szChecker [.tmp 4] 30 = true := by decide +kernel
def fa_laws_szChecker : FnA := ⟨ac_laws_szChecker, [.tmp 4], 30, false, true, [], .any⟩

/-- The checked code of spec l02List. -/
def lb_spec_l02List_0 : AC := (.seq (.seq (.post (.reg [⟨(some 12), .op (.mv (.tmp 7)), none⟩,
    ⟨(some 13), .op (.mv (.tmp 0)), none⟩,
    ⟨(some 14), .op (.len false (.tmp 13)), none⟩,
    ⟨(some 15), .op (.bin .lss (.tmp 12) (.tmp 14)), none⟩]) (.kill [12, 13, 14]))
  (.cond (.tmp 15) (.ghost (.kill [15]) .skip)
  (.ghost (.kill [0, 2, 7, 15]) (.exit 0))))
  (.seq (.block 1 (.seq (.post (.reg [⟨(some 18), .op (.mv (.tmp 0)), none⟩,
    ⟨(some 19), .op (.mv (.tmp 7)), none⟩,
    ⟨(some 20), .op (.iaddrS (.tmp 18) (.tmp 19) 1), none⟩,
    ⟨(some 21), .op (.load 1 false (.tmp 20)), none⟩,
    ⟨(some 22), .op (.mv (.tmp 2)), none⟩,
    ⟨(some 23), .op (.bin .sub (.tmp 22) (.const (Value.int .i64 1))), none⟩,
    ⟨(some 24), .call (.func i_spec_l00In) [(.tmp 21), (.const (Value.int .i64 0)), (.tmp 23)], none⟩,
    ⟨(some 25), .op (.un .not (.tmp 24)), none⟩]) (.kill [18, 19, 20, 21, 22, 23, 24]))
  (.cond (.tmp 25) (.ghost (.kill [0, 2, 7, 25]) (.seq (.reg [⟨(some 6), .op (.mv (.const (Value.bool false))), none⟩])
  .ret))
  (.ghost (.kill [25]) .skip))))
  (.post (.reg [⟨(some 16), .op (.mv (.tmp 7)), none⟩,
    ⟨(some 17), .op (.bin .add (.tmp 16) (.const (Value.int .i64 1))), none⟩,
    ⟨(some 7), .op (.mv (.tmp 17)), none⟩]) (.kill [16, 17]))))
def lo_spec_l02List_0 : AC := (.loop lb_spec_l02List_0)
def ac_spec_l02List : AC := (.seq (.post (.reg [⟨(some 6), .op (.mv (.const (Value.bool false))), none⟩]) (.kill [6]))
  (.seq (.seq (.post (.reg [⟨(some 8), .op (.mv (.tmp 0)), none⟩,
    ⟨(some 9), .op (.len false (.tmp 8)), none⟩,
    ⟨(some 10), .op (.mv (.tmp 1)), none⟩,
    ⟨(some 11), .op (.bin .neq (.tmp 9) (.tmp 10)), none⟩]) (.kill [1, 8, 9, 10]))
  (.cond (.tmp 11) (.ghost (.kill [0, 2, 11]) (.seq (.reg [⟨(some 6), .op (.mv (.const (Value.bool false))), none⟩])
  .ret))
  (.ghost (.kill [11]) .skip)))
  (.seq (.seq (.reg [⟨(some 7), .op (.mv (.const (Value.int .i64 0))), none⟩])
  (.block 0 lo_spec_l02List_0))
  (.ghost (.kill [0, 2, 7]) (.seq (.reg [⟨(some 6), .op (.mv (.const (Value.bool true))), none⟩])
  .ret)))))
theorem cf_spec_l02List : chkFn Try.prog i_spec_l02List ac_spec_l02List [.tmp 6] 26 = true := by decide +kernel
def fa_spec_l02List : FnA := ⟨ac_spec_l02List, [.tmp 6], 26, false, true, [], .any⟩

/-- The checked code of spec l02Ok. -/
def lb_spec_l02Ok_0 : AC := (.seq (.seq (.post (.reg [⟨(some 96), .op (.mv (.tmp 5)), none⟩,
    ⟨(some 97), .op (.bin .lss (.tmp 96) (.const (Value.int .i64 2))), none⟩]) (.kill [96]))
  (.cond (.tmp 97) (.ghost (.kill [97]) .skip)
  (.ghost (.kill [5, 97]) (.exit 2))))
  (.seq (.block 3 (.seq (.post (.draw [⟨0, ⟨(some 100), .op (.mv (.tmp 0)), none⟩, []⟩,
    ⟨1, ⟨(some 101), .op (.nilc (.tmp 100)), none⟩, []⟩,
    ⟨2, ⟨(some 102), .op (.faddr (.tmp 101) 3), none⟩, []⟩,
    ⟨3, ⟨(some 103), .op (.load 1 false (.tmp 102)), none⟩, []⟩,
    ⟨4, ⟨(some 104), .op (.mv (.tmp 4)), none⟩, []⟩,
    ⟨5, ⟨(some 105), .op (.iaddrS (.tmp 103) (.tmp 104) 1), none⟩, []⟩,
    ⟨6, ⟨(some 106), .op (.load 1 false (.tmp 105)), none⟩, []⟩,
    ⟨7, ⟨(some 107), .op (.mv (.tmp 5)), none⟩, []⟩,
    ⟨8, ⟨(some 108), .op (.iaddrS (.tmp 106) (.tmp 107) 2), none⟩, []⟩,
    ⟨9, ⟨(some 109), .op (.faddr (.tmp 108) 0), none⟩, []⟩,
    ⟨10, ⟨(some 110), .op (.load 1 false (.tmp 109)), none⟩, []⟩,
    ⟨11, ⟨(some 111), .op (.mv (.tmp 3)), none⟩, []⟩,
    ⟨12, ⟨(some 112), .op (.bin .sub (.tmp 111) (.const (Value.int .i64 1))), none⟩, []⟩,
    ⟨13, ⟨(some 113), .call (.func i_spec_l00In) [(.tmp 110), (.const (Value.int .i64 0)), (.tmp 112)], none⟩, []⟩,
    ⟨14, ⟨(some 114), .op (.un .not (.tmp 113)), none⟩, []⟩,
    ⟨15, ⟨(some 115), .op (.mv (.tmp 114)), none⟩, []⟩,
    ⟨16, ⟨(some 116), .op (.mv (.tmp 0)), some (115, false)⟩, []⟩,
    ⟨17, ⟨(some 117), .op (.nilc (.tmp 116)), some (115, false)⟩, []⟩,
    ⟨18, ⟨(some 118), .op (.faddr (.tmp 117) 3), some (115, false)⟩, []⟩,
    ⟨19, ⟨(some 119), .op (.load 1 false (.tmp 118)), some (115, false)⟩, []⟩,
    ⟨20, ⟨(some 120), .op (.mv (.tmp 4)), some (115, false)⟩, []⟩,
    ⟨21, ⟨(some 121), .op (.iaddrS (.tmp 119) (.tmp 120) 1), some (115, false)⟩, []⟩,
    ⟨22, ⟨(some 122), .op (.load 1 false (.tmp 121)), some (115, false)⟩, []⟩,
    ⟨23, ⟨(some 123), .op (.mv (.tmp 5)), some (115, false)⟩, []⟩,
    ⟨24, ⟨(some 124), .op (.iaddrS (.tmp 122) (.tmp 123) 2), some (115, false)⟩, []⟩,
    ⟨25, ⟨(some 125), .op (.faddr (.tmp 124) 1), some (115, false)⟩, []⟩,
    ⟨26, ⟨(some 126), .op (.load 1 false (.tmp 125)), some (115, false)⟩, []⟩,
    ⟨27, ⟨(some 127), .op (.mv (.tmp 0)), some (115, false)⟩, []⟩,
    ⟨28, ⟨(some 128), .op (.nilc (.tmp 127)), some (115, false)⟩, []⟩,
    ⟨29, ⟨(some 129), .op (.faddr (.tmp 128) 0), some (115, false)⟩, []⟩,
    ⟨30, ⟨(some 130), .op (.load 1 false (.tmp 129)), some (115, false)⟩, []⟩,
    ⟨31, ⟨(some 131), .op (.bin .sub (.tmp 130) (.const (Value.int .i64 1))), some (115, false)⟩, []⟩,
    ⟨32, ⟨(some 132), .call (.func i_spec_l00In) [(.tmp 126), (.const (Value.int .i64 0)), (.tmp 131)], some (115, false)⟩, []⟩,
    ⟨33, ⟨(some 133), .op (.un .not (.tmp 132)), some (115, false)⟩, []⟩,
    ⟨34, ⟨(some 134), .op (.pick (.tmp 115) (.const (Value.bool true)) (.tmp 133)), none⟩, []⟩,
    ⟨35, ⟨(some 135), .op (.mv (.tmp 134)), none⟩, []⟩,
    ⟨36, ⟨(some 136), .op (.mv (.tmp 0)), some (135, false)⟩, []⟩,
    ⟨37, ⟨(some 137), .op (.nilc (.tmp 136)), some (135, false)⟩, []⟩,
    ⟨38, ⟨(some 138), .op (.faddr (.tmp 137) 4), some (135, false)⟩, []⟩,
    ⟨39, ⟨(some 139), .op (.load 1 false (.tmp 138)), some (135, false)⟩, []⟩,
    ⟨40, ⟨(some 140), .op (.mv (.tmp 4)), some (135, false)⟩, []⟩,
    ⟨41, ⟨(some 141), .op (.iaddrS (.tmp 139) (.tmp 140) 1), some (135, false)⟩, []⟩,
    ⟨42, ⟨(some 142), .op (.load 1 false (.tmp 141)), some (135, false)⟩, []⟩,
    ⟨43, ⟨(some 143), .op (.mv (.tmp 5)), some (135, false)⟩, []⟩,
    ⟨44, ⟨(some 144), .op (.iaddrS (.tmp 142) (.tmp 143) 1), some (135, false)⟩, []⟩,
    ⟨45, ⟨(some 145), .op (.load 1 false (.tmp 144)), some (135, false)⟩, []⟩,
    ⟨46, ⟨(some 146), .op (.mv (.tmp 0)), some (135, false)⟩, []⟩,
    ⟨47, ⟨(some 147), .op (.nilc (.tmp 146)), some (135, false)⟩, []⟩,
    ⟨48, ⟨(some 148), .op (.faddr (.tmp 147) 0), some (135, false)⟩, []⟩,
    ⟨49, ⟨(some 149), .op (.load 1 false (.tmp 148)), some (135, false)⟩, []⟩,
    ⟨50, ⟨(some 150), .op (.bin .add (.tmp 149) (.const (Value.int .i64 1))), some (135, false)⟩, []⟩,
    ⟨51, ⟨(some 151), .op (.mv (.tmp 3)), some (135, false)⟩, []⟩,
    ⟨52, ⟨(some 152), .call (.func i_spec_l02List) [(.tmp 145), (.tmp 150), (.tmp 151)], some (135, false)⟩, []⟩,
    ⟨53, ⟨(some 153), .op (.un .not (.tmp 152)), some (135, false)⟩, []⟩,
    ⟨54, ⟨(some 154), .op (.pick (.tmp 135) (.const (Value.bool true)) (.tmp 153)), none⟩, []⟩]
    [0, 1, 3, 7, 0, 31, 63, 0, 255, 511, 1023, 0, 2048, 8191, 16383, 32767, 65535, 131071, 262143, 524287, 65535, 2097151, 4194303, 65535, 16777215, 33554431, 67108863, 65535, 134283263, 402718719, 939589631, 2013331455, 4294967295, 8589934591, 17179869183, 34359738367, 68719476735, 137438953471, 274877906943, 549755813887, 68719476735, 2199023255551, 4398046511103, 68719476735, 17592186044415, 35184372088831, 68719476735, 70437463654399, 211174952009727, 492649928720383, 1055599882141695, 68719476735, 4503599627370495, 9007199254740991, 18014398509481983]) (.kill [100, 101, 102, 103, 104, 105, 106, 107, 108, 109, 110, 111, 112, 113, 114, 115, 116, 117, 118, 119, 120, 121, 122, 123, 124, 125, 126, 127, 128, 129, 130, 131, 132, 133, 134, 135, 136, 137, 138, 139, 140, 141, 142, 143, 144, 145, 146, 147, 148, 149, 150, 151, 152, 153]))
  (.cond (.tmp 154) (.ghost (.kill [0, 3, 4, 5, 154]) (.seq (.reg [⟨(some 2), .op (.mv (.const (Value.bool false))), none⟩])
  .ret))
  (.ghost (.kill [154]) .skip))))
  (.post (.reg [⟨(some 98), .op (.mv (.tmp 5)), none⟩,
    ⟨(some 99), .op (.bin .add (.tmp 98) (.const (Value.int .i64 1))), none⟩,
    ⟨(some 5), .op (.mv (.tmp 99)), none⟩]) (.kill [98, 99]))))
def lo_spec_l02Ok_0 : AC := (.loop lb_spec_l02Ok_0)
def lb_spec_l02Ok_1 : AC := (.seq (.seq (.post (.reg [⟨(some 59), .op (.mv (.tmp 4)), none⟩,
    ⟨(some 60), .op (.mv (.tmp 3)), none⟩,
    ⟨(some 61), .op (.bin .lss (.tmp 59) (.tmp 60)), none⟩]) (.kill [59, 60]))
  (.cond (.tmp 61) (.ghost (.kill [61]) .skip)
  (.ghost (.kill [0, 3, 4, 61]) (.exit 0))))
  (.seq (.block 1 (.seq (.seq (.post (.reg [⟨(some 64), .op (.mv (.tmp 0)), none⟩,
    ⟨(some 65), .op (.nilc (.tmp 64)), none⟩,
    ⟨(some 66), .op (.faddr (.tmp 65) 3), none⟩,
    ⟨(some 67), .op (.load 1 false (.tmp 66)), none⟩,
    ⟨(some 68), .op (.mv (.tmp 4)), none⟩,
    ⟨(some 69), .op (.iaddrS (.tmp 67) (.tmp 68) 1), none⟩,
    ⟨(some 70), .op (.load 1 false (.tmp 69)), none⟩,
    ⟨(some 71), .op (.len false (.tmp 70)), none⟩,
    ⟨(some 72), .op (.bin .neq (.tmp 71) (.const (Value.int .i64 2))), none⟩,
    ⟨(some 73), .op (.mv (.tmp 72)), none⟩,
    ⟨(some 74), .op (.mv (.tmp 0)), some (73, false)⟩,
    ⟨(some 75), .op (.nilc (.tmp 74)), some (73, false)⟩,
    ⟨(some 76), .op (.faddr (.tmp 75) 4), some (73, false)⟩,
    ⟨(some 77), .op (.load 1 false (.tmp 76)), some (73, false)⟩,
    ⟨(some 78), .op (.mv (.tmp 4)), some (73, false)⟩,
    ⟨(some 79), .op (.iaddrS (.tmp 77) (.tmp 78) 1), some (73, false)⟩,
    ⟨(some 80), .op (.load 1 false (.tmp 79)), some (73, false)⟩,
    ⟨(some 81), .op (.len false (.tmp 80)), some (73, false)⟩,
    ⟨(some 82), .op (.bin .neq (.tmp 81) (.const (Value.int .i64 2))), some (73, false)⟩,
    ⟨(some 83), .op (.pick (.tmp 73) (.const (Value.bool true)) (.tmp 82)), none⟩,
    ⟨(some 84), .op (.mv (.tmp 83)), none⟩,
    ⟨(some 85), .op (.mv (.tmp 0)), some (84, false)⟩,
    ⟨(some 86), .op (.nilc (.tmp 85)), some (84, false)⟩,
    ⟨(some 87), .op (.faddr (.tmp 86) 5), some (84, false)⟩,
    ⟨(some 88), .op (.load 1 false (.tmp 87)), some (84, false)⟩,
    ⟨(some 89), .op (.mv (.tmp 4)), some (84, false)⟩,
    ⟨(some 90), .op (.iaddrS (.tmp 88) (.tmp 89) 1), some (84, false)⟩,
    ⟨(some 91), .op (.load 1 false (.tmp 90)), some (84, false)⟩,
    ⟨(some 92), .op (.mv (.tmp 3)), some (84, false)⟩,
    ⟨(some 93), .call (.func i_spec_l02List) [(.tmp 91), (.const (Value.int .i64 2)), (.tmp 92)], some (84, false)⟩,
    ⟨(some 94), .op (.un .not (.tmp 93)), some (84, false)⟩,
    ⟨(some 95), .op (.pick (.tmp 84) (.const (Value.bool true)) (.tmp 94)), none⟩]) (.kill [64, 65, 66, 67, 68, 69, 70, 71, 72, 73, 74, 75, 76, 77, 78, 79, 80, 81, 82, 83, 84, 85, 86, 87, 88, 89, 90, 91, 92, 93, 94]))
  (.cond (.tmp 95) (.ghost (.kill [0, 3, 4, 95]) (.seq (.reg [⟨(some 2), .op (.mv (.const (Value.bool false))), none⟩])
  .ret))
  (.ghost (.kill [95]) .skip)))
  (.seq (.reg [⟨(some 5), .op (.mv (.const (Value.int .i64 0))), none⟩])
  (.block 2 lo_spec_l02Ok_0))))
  (.ghost (.kill [5]) (.post (.reg [⟨(some 62), .op (.mv (.tmp 4)), none⟩,
    ⟨(some 63), .op (.bin .add (.tmp 62) (.const (Value.int .i64 1))), none⟩,
    ⟨(some 4), .op (.mv (.tmp 63)), none⟩]) (.kill [62, 63])))))
def lo_spec_l02Ok_1 : AC := (.loop lb_spec_l02Ok_1)
def ac_spec_l02Ok : AC := (.seq (.post (.reg [⟨(some 2), .op (.mv (.const (Value.bool false))), none⟩]) (.kill [2]))
  (.seq (.post (.reg [⟨(some 6), .op (.mv (.tmp 0)), none⟩,
    ⟨(some 7), .op (.nilc (.tmp 6)), none⟩,
    ⟨(some 8), .op (.faddr (.tmp 7) 2), none⟩,
    ⟨(some 9), .op (.load 1 false (.tmp 8)), none⟩,
    ⟨(some 10), .op (.len false (.tmp 9)), none⟩,
    ⟨(some 3), .op (.mv (.tmp 10)), none⟩]) (.kill [6, 7, 8, 9, 10]))
  (.seq (.seq (.post (.reg [⟨(some 11), .op (.mv (.tmp 3)), none⟩,
    ⟨(some 12), .call (.func i_spec_l00In) [(.tmp 11), (.const (Value.int .i64 1)), (.const (Value.int .i64 40))], none⟩,
    ⟨(some 13), .op (.un .not (.tmp 12)), none⟩,
    ⟨(some 14), .op (.mv (.tmp 13)), none⟩,
    ⟨(some 15), .op (.mv (.tmp 0)), some (14, false)⟩,
    ⟨(some 16), .op (.nilc (.tmp 15)), some (14, false)⟩,
    ⟨(some 17), .op (.faddr (.tmp 16) 0), some (14, false)⟩,
    ⟨(some 18), .op (.load 1 false (.tmp 17)), some (14, false)⟩,
    ⟨(some 19), .call (.func i_spec_l00In) [(.tmp 18), (.const (Value.int .i64 1)), (.const (Value.int .i64 80))], some (14, false)⟩,
    ⟨(some 20), .op (.un .not (.tmp 19)), some (14, false)⟩,
    ⟨(some 21), .op (.pick (.tmp 14) (.const (Value.bool true)) (.tmp 20)), none⟩,
    ⟨(some 22), .op (.mv (.tmp 21)), none⟩,
    ⟨(some 23), .op (.mv (.tmp 0)), some (22, false)⟩,
    ⟨(some 24), .op (.nilc (.tmp 23)), some (22, false)⟩,
    ⟨(some 25), .op (.faddr (.tmp 24) 1), some (22, false)⟩,
    ⟨(some 26), .op (.load 1 false (.tmp 25)), some (22, false)⟩,
    ⟨(some 27), .op (.mv (.tmp 3)), some (22, false)⟩,
    ⟨(some 28), .op (.bin .sub (.tmp 27) (.const (Value.int .i64 1))), some (22, false)⟩,
    ⟨(some 29), .call (.func i_spec_l00In) [(.tmp 26), (.const (Value.int .i64 0)), (.tmp 28)], some (22, false)⟩,
    ⟨(some 30), .op (.un .not (.tmp 29)), some (22, false)⟩,
    ⟨(some 31), .op (.pick (.tmp 22) (.const (Value.bool true)) (.tmp 30)), none⟩,
    ⟨(some 32), .op (.mv (.tmp 31)), none⟩,
    ⟨(some 33), .op (.mv (.tmp 0)), some (32, false)⟩,
    ⟨(some 34), .op (.nilc (.tmp 33)), some (32, false)⟩,
    ⟨(some 35), .op (.faddr (.tmp 34) 3), some (32, false)⟩,
    ⟨(some 36), .op (.load 1 false (.tmp 35)), some (32, false)⟩,
    ⟨(some 37), .op (.len false (.tmp 36)), some (32, false)⟩,
    ⟨(some 38), .op (.mv (.tmp 3)), some (32, false)⟩,
    ⟨(some 39), .op (.bin .neq (.tmp 37) (.tmp 38)), some (32, false)⟩,
    ⟨(some 40), .op (.pick (.tmp 32) (.const (Value.bool true)) (.tmp 39)), none⟩,
    ⟨(some 41), .op (.mv (.tmp 40)), none⟩,
    ⟨(some 42), .op (.mv (.tmp 0)), some (41, false)⟩,
    ⟨(some 43), .op (.nilc (.tmp 42)), some (41, false)⟩,
    ⟨(some 44), .op (.faddr (.tmp 43) 4), some (41, false)⟩,
    ⟨(some 45), .op (.load 1 false (.tmp 44)), some (41, false)⟩,
    ⟨(some 46), .op (.len false (.tmp 45)), some (41, false)⟩,
    ⟨(some 47), .op (.mv (.tmp 3)), some (41, false)⟩,
    ⟨(some 48), .op (.bin .neq (.tmp 46) (.tmp 47)), some (41, false)⟩,
    ⟨(some 49), .op (.pick (.tmp 41) (.const (Value.bool true)) (.tmp 48)), none⟩,
    ⟨(some 50), .op (.mv (.tmp 49)), none⟩,
    ⟨(some 51), .op (.mv (.tmp 0)), some (50, false)⟩,
    ⟨(some 52), .op (.nilc (.tmp 51)), some (50, false)⟩,
    ⟨(some 53), .op (.faddr (.tmp 52) 5), some (50, false)⟩,
    ⟨(some 54), .op (.load 1 false (.tmp 53)), some (50, false)⟩,
    ⟨(some 55), .op (.len false (.tmp 54)), some (50, false)⟩,
    ⟨(some 56), .op (.mv (.tmp 3)), some (50, false)⟩,
    ⟨(some 57), .op (.bin .neq (.tmp 55) (.tmp 56)), some (50, false)⟩,
    ⟨(some 58), .op (.pick (.tmp 50) (.const (Value.bool true)) (.tmp 57)), none⟩]) (.kill [11, 12, 13, 14, 15, 16, 17, 18, 19, 20, 21, 22, 23, 24, 25, 26, 27, 28, 29, 30, 31, 32, 33, 34, 35, 36, 37, 38, 39, 40, 41, 42, 43, 44, 45, 46, 47, 48, 49, 50, 51, 52, 53, 54, 55, 56, 57]))
  (.cond (.tmp 58) (.ghost (.kill [0, 3, 58]) (.seq (.reg [⟨(some 2), .op (.mv (.const (Value.bool false))), none⟩])
  .ret))
  (.ghost (.kill [58]) .skip)))
  (.seq (.seq (.reg [⟨(some 4), .op (.mv (.const (Value.int .i64 0))), none⟩])
  (.block 0 lo_spec_l02Ok_1))
  (.ghost (.kill [0, 3, 4]) (.seq (.reg [⟨(some 2), .op (.mv (.const (Value.bool true))), none⟩])
  .ret))))))
theorem cf_spec_l02Ok : chkFn Try.prog i_spec_l02Ok ac_spec_l02Ok [.tmp 2] 155 = true := by decide +kernel
def fa_spec_l02Ok : FnA := ⟨ac_spec_l02Ok, [.tmp 2], 155, false, true, [], .any⟩

/-- The checked code of spec l02Given. -/
def ac_spec_l02Given : AC := (.seq (.post (.reg [⟨(some 4), .op (.mv (.const (Value.int .i64 0))), none⟩]) (.kill [4]))
  (.seq (.seq (.post (.reg [⟨(some 5), .op (.mv (.tmp 0)), none⟩,
    ⟨(some 6), .call (.func i_spec_l02Ok) [(.tmp 5)], none⟩,
    ⟨(some 7), .op (.un .not (.tmp 6)), none⟩,
    ⟨(some 8), .op (.mv (.tmp 7)), none⟩,
    ⟨(some 9), .op (.mv (.tmp 1)), some (8, false)⟩,
    ⟨(some 10), .call (.func i_spec_l01Ok) [(.tmp 9)], some (8, false)⟩,
    ⟨(some 11), .op (.un .not (.tmp 10)), some (8, false)⟩,
    ⟨(some 12), .op (.pick (.tmp 8) (.const (Value.bool true)) (.tmp 11)), none⟩]) (.kill [0, 1, 5, 6, 7, 8, 9, 10, 11]))
  (.cond (.tmp 12) (.ghost (.kill [12]) (.seq (.reg [⟨(some 4), .op (.mv (.const (Value.int .i64 1))), none⟩])
  .ret))
  (.ghost (.kill [12]) .skip)))
  (.seq (.reg [⟨(some 4), .op (.mv (.const (Value.int .i64 0))), none⟩])
  .ret)))
theorem cf_spec_l02Given : chkFn Try.prog i_spec_l02Given ac_spec_l02Given [.tmp 4] 13 = true := by decide +kernel
def fa_spec_l02Given : FnA := ⟨ac_spec_l02Given, [.tmp 4], 13, false, true, [], .any⟩

/-- The checked code of spec l02Step. -/
def ac_spec_l02Step : AC := (.seq (.post (.reg [⟨(some 8), .op (.mv (.const (Value.int .i64 0))), none⟩,
    ⟨(some 9), .op (.mv (.const (Value.slice none 0 0))), none⟩]) (.kill [8, 9]))
  (.seq (.post (.reg [⟨(some 12), .op (.mv (.tmp 3)), none⟩,
    ⟨(some 13), .call (.func i_spec_l01Symbol) [(.tmp 12)], none⟩,
    ⟨(some 10), .op (.mv (.tmp 13)), none⟩]) (.kill [3, 12, 13]))
  (.seq (.block 0 (.seq (.post (.reg [⟨(some 15), .op (.mv (.tmp 10)), none⟩,
    ⟨(some 16), .op (.bin .lss (.tmp 15) (.const (Value.int .i64 2))), none⟩,
    ⟨(some 14), .op (.mv (.tmp 16)), none⟩]) (.kill [15, 16]))
  (.cond (.tmp 14) (.ghost (.kill [14]) (.seq (.post (.reg [⟨(some 17), .op (.mv (.tmp 0)), none⟩,
    ⟨(some 18), .op (.nilc (.tmp 17)), none⟩,
    ⟨(some 19), .op (.faddr (.tmp 18) 3), none⟩,
    ⟨(some 20), .op (.load 1 false (.tmp 19)), none⟩,
    ⟨(some 21), .op (.mv (.tmp 1)), none⟩,
    ⟨(some 22), .op (.iaddrS (.tmp 20) (.tmp 21) 1), none⟩,
    ⟨(some 23), .op (.load 1 false (.tmp 22)), none⟩,
    ⟨(some 24), .op (.mv (.tmp 10)), none⟩,
    ⟨(some 25), .op (.iaddrS (.tmp 23) (.tmp 24) 2), none⟩,
    ⟨(some 26), .op (.load 2 true (.tmp 25)), none⟩,
    ⟨(some 11), .op (.alloc (Value.agg #[Value.int .i64 0, Value.int .i64 0])), none⟩,
    ⟨none, .op (.store 2 (.tmp 11) (.tmp 26)), none⟩]) (.kill [0, 1, 10, 17, 18, 19, 20, 21, 22, 23, 24, 25, 26]))
  (.seq (.post (.post (.draw [⟨0, ⟨(some 27), .op (.faddr (.tmp 11) 0), none⟩, []⟩,
    ⟨1, ⟨(some 28), .op (.load 1 false (.tmp 27)), none⟩, []⟩,
    ⟨2, ⟨(some 29), .op (.mv (.tmp 2)), none⟩, []⟩,
    ⟨4, ⟨(some 31), .op (.faddr (.tmp 11) 1), none⟩, []⟩,
    ⟨5, ⟨(some 32), .op (.load 1 false (.tmp 31)), none⟩, []⟩,
    ⟨6, ⟨(some 33), .op (.lits true 1 1 (Value.int .i64 0) [(0, (.tmp 32))]), none⟩, []⟩,
    ⟨3, ⟨(some 30), .call (.func i_spec_l00Own) [(.tmp 29)], none⟩, [1, 5]⟩,
    ⟨7, ⟨(some 34), .op (.append (.tmp 30) (.tmp 33) 1 8), none⟩, [1]⟩,
    ⟨8, ⟨(some 8), .op (.mv (.tmp 28)), none⟩, []⟩,
    ⟨9, ⟨(some 9), .op (.mv (.tmp 34)), none⟩, []⟩]
    [0, 1, 0, 4, 0, 16, 48, 124, 255, 511]) (.kill [2, 11, 27, 28, 29, 30, 31, 32, 33, 34])) .nv)
  .ret)))
  (.ghost (.kill [14]) (.seq (.post (.reg [⟨(some 36), .op (.mv (.tmp 10)), none⟩,
    ⟨(some 37), .op (.bin .lss (.tmp 36) (.const (Value.int .i64 4))), none⟩,
    ⟨(some 38), .op (.mv (.tmp 37)), none⟩,
    ⟨(some 39), .op (.mv (.tmp 2)), some (38, true)⟩,
    ⟨(some 40), .op (.len false (.tmp 39)), some (38, true)⟩,
    ⟨(some 41), .op (.bin .eql (.tmp 40) (.const (Value.int .i64 0))), some (38, true)⟩,
    ⟨(some 42), .op (.pick (.tmp 38) (.tmp 41) (.const (Value.bool false))), none⟩,
    ⟨(some 35), .op (.mv (.tmp 42)), none⟩]) (.kill [36, 37, 38, 39, 40, 41, 42]))
  (.cond (.tmp 35) (.ghost (.kill [2, 35]) (.seq (.post (.draw [⟨0, ⟨(some 43), .op (.mv (.tmp 0)), none⟩, []⟩,
    ⟨1, ⟨(some 44), .op (.nilc (.tmp 43)), none⟩, []⟩,
    ⟨2, ⟨(some 45), .op (.faddr (.tmp 44) 4), none⟩, []⟩,
    ⟨3, ⟨(some 46), .op (.load 1 false (.tmp 45)), none⟩, []⟩,
    ⟨4, ⟨(some 47), .op (.mv (.tmp 1)), none⟩, []⟩,
    ⟨5, ⟨(some 48), .op (.iaddrS (.tmp 46) (.tmp 47) 1), none⟩, []⟩,
    ⟨6, ⟨(some 49), .op (.load 1 false (.tmp 48)), none⟩, []⟩,
    ⟨7, ⟨(some 50), .op (.mv (.tmp 10)), none⟩, []⟩,
    ⟨8, ⟨(some 51), .op (.bin .sub (.tmp 50) (.const (Value.int .i64 2))), none⟩, []⟩,
    ⟨9, ⟨(some 52), .op (.iaddrS (.tmp 49) (.tmp 51) 1), none⟩, []⟩,
    ⟨10, ⟨(some 53), .op (.load 1 false (.tmp 52)), none⟩, []⟩,
    ⟨11, ⟨(some 54), .op (.mv (.tmp 0)), none⟩, []⟩,
    ⟨12, ⟨(some 55), .op (.nilc (.tmp 54)), none⟩, []⟩,
    ⟨13, ⟨(some 56), .op (.faddr (.tmp 55) 0), none⟩, []⟩,
    ⟨14, ⟨(some 57), .op (.load 1 false (.tmp 56)), none⟩, []⟩,
    ⟨15, ⟨(some 58), .op (.iaddrS (.tmp 53) (.tmp 57) 1), none⟩, []⟩,
    ⟨16, ⟨(some 59), .op (.load 1 false (.tmp 58)), none⟩, []⟩,
    ⟨17, ⟨(some 60), .op (.lits true 1 0 (Value.int .i64 0) []), none⟩, []⟩,
    ⟨18, ⟨(some 8), .op (.mv (.tmp 59)), none⟩, []⟩,
    ⟨19, ⟨(some 9), .op (.mv (.tmp 60)), none⟩, []⟩]
    [0, 1, 3, 7, 0, 31, 63, 0, 128, 511, 1023, 0, 2048, 6144, 14336, 32767, 65535, 0, 131071, 524287]) (.kill [0, 1, 10, 43, 44, 45, 46, 47, 48, 49, 50, 51, 52, 53, 54, 55, 56, 57, 58, 59, 60]))
  .ret))
  (.ghost (.kill [35]) (.seq (.post (.reg [⟨(some 62), .op (.mv (.tmp 10)), none⟩,
    ⟨(some 63), .op (.bin .lss (.tmp 62) (.const (Value.int .i64 4))), none⟩,
    ⟨(some 61), .op (.mv (.tmp 63)), none⟩]) (.kill [62, 63]))
  (.cond (.tmp 61) (.ghost (.kill [61]) (.seq (.post (.post (.draw [⟨0, ⟨(some 64), .op (.mv (.tmp 0)), none⟩, []⟩,
    ⟨1, ⟨(some 65), .op (.nilc (.tmp 64)), none⟩, []⟩,
    ⟨2, ⟨(some 66), .op (.faddr (.tmp 65) 4), none⟩, []⟩,
    ⟨3, ⟨(some 67), .op (.load 1 false (.tmp 66)), none⟩, []⟩,
    ⟨4, ⟨(some 68), .op (.mv (.tmp 1)), none⟩, []⟩,
    ⟨5, ⟨(some 69), .op (.iaddrS (.tmp 67) (.tmp 68) 1), none⟩, []⟩,
    ⟨6, ⟨(some 70), .op (.load 1 false (.tmp 69)), none⟩, []⟩,
    ⟨7, ⟨(some 71), .op (.mv (.tmp 10)), none⟩, []⟩,
    ⟨8, ⟨(some 72), .op (.bin .sub (.tmp 71) (.const (Value.int .i64 2))), none⟩, []⟩,
    ⟨9, ⟨(some 73), .op (.iaddrS (.tmp 70) (.tmp 72) 1), none⟩, []⟩,
    ⟨10, ⟨(some 74), .op (.load 1 false (.tmp 73)), none⟩, []⟩,
    ⟨11, ⟨(some 75), .op (.mv (.tmp 2)), none⟩, []⟩,
    ⟨12, ⟨(some 76), .op (.mv (.tmp 2)), none⟩, []⟩,
    ⟨13, ⟨(some 77), .op (.len false (.tmp 76)), none⟩, []⟩,
    ⟨14, ⟨(some 78), .op (.bin .sub (.tmp 77) (.const (Value.int .i64 1))), none⟩, []⟩,
    ⟨15, ⟨(some 79), .op (.iaddrS (.tmp 75) (.tmp 78) 1), none⟩, []⟩,
    ⟨16, ⟨(some 80), .op (.load 1 false (.tmp 79)), none⟩, []⟩,
    ⟨17, ⟨(some 81), .op (.iaddrS (.tmp 74) (.tmp 80) 1), none⟩, []⟩,
    ⟨18, ⟨(some 82), .op (.load 1 false (.tmp 81)), none⟩, []⟩,
    ⟨19, ⟨(some 83), .op (.mv (.tmp 2)), none⟩, []⟩,
    ⟨20, ⟨(some 84), .op (.mv (.tmp 2)), none⟩, []⟩,
    ⟨21, ⟨(some 85), .op (.len false (.tmp 84)), none⟩, []⟩,
    ⟨22, ⟨(some 86), .op (.bin .sub (.tmp 85) (.const (Value.int .i64 1))), none⟩, []⟩,
    ⟨23, ⟨(some 87), .op (.slcS (.tmp 83) none (some (.tmp 86)) none 1), none⟩, []⟩,
    ⟨24, ⟨(some 88), .call (.func i_spec_l00Own) [(.tmp 87)], none⟩, [3, 5, 6, 9, 10, 15, 16, 17, 18]⟩,
    ⟨25, ⟨(some 8), .op (.mv (.tmp 82)), none⟩, []⟩,
    ⟨26, ⟨(some 9), .op (.mv (.tmp 88)), none⟩, []⟩]
    [0, 1, 3, 7, 0, 31, 63, 0, 128, 511, 1023, 0, 0, 4096, 12288, 30720, 63488, 131071, 262143, 0, 0, 1048576, 3145728, 7864320, 16252928, 33554431, 67108863]) (.kill [0, 1, 2, 10, 64, 65, 66, 67, 68, 69, 70, 71, 72, 73, 74, 75, 76, 77, 78, 79, 80, 81, 82, 83, 84, 85, 86, 87, 88])) .nv)
  .ret))
  (.ghost (.kill [61]) .skip))))))))))
  (.seq (.post (.reg [⟨(some 89), .op (.mv (.tmp 0)), none⟩,
    ⟨(some 90), .op (.nilc (.tmp 89)), none⟩,
    ⟨(some 91), .op (.faddr (.tmp 90) 5), none⟩,
    ⟨(some 92), .op (.load 1 false (.tmp 91)), none⟩,
    ⟨(some 93), .op (.mv (.tmp 1)), none⟩,
    ⟨(some 94), .op (.iaddrS (.tmp 92) (.tmp 93) 1), none⟩,
    ⟨(some 95), .op (.load 1 false (.tmp 94)), none⟩,
    ⟨(some 96), .op (.mv (.tmp 10)), none⟩,
    ⟨(some 97), .op (.bin .sub (.tmp 96) (.const (Value.int .i64 4))), none⟩,
    ⟨(some 98), .op (.iaddrS (.tmp 95) (.tmp 97) 1), none⟩,
    ⟨(some 99), .op (.load 1 false (.tmp 98)), none⟩,
    ⟨(some 100), .op (.mv (.tmp 2)), none⟩,
    ⟨(some 8), .op (.mv (.tmp 99)), none⟩,
    ⟨(some 9), .op (.mv (.tmp 100)), none⟩]) (.kill [0, 1, 2, 10, 89, 90, 91, 92, 93, 94, 95, 96, 97, 98, 99, 100]))
  .ret))))
theorem cf_spec_l02Step : chkFn Try.prog i_spec_l02Step ac_spec_l02Step [.tmp 8, .tmp 9] 101 = true := by decide +kernel
def fa_spec_l02Step : FnA := ⟨ac_spec_l02Step, [.tmp 8, .tmp 9], 101, false, true, [.any, .any, (.lst 1 .any), .any], (.agg [.any, (.lst 1 .any)])⟩

/-- The checked code of spec l02Go. -/
def lb_spec_l02Go_0 : AC := (.seq (.seq (.post (.reg [⟨(some 11), .op (.mv (.tmp 10)), none⟩,
    ⟨(some 12), .op (.mv (.tmp 3)), none⟩,
    ⟨(some 13), .op (.len true (.tmp 12)), none⟩,
    ⟨(some 14), .op (.bin .lss (.tmp 11) (.tmp 13)), none⟩]) (.kill [11, 12, 13]))
  (.cond (.tmp 14) (.ghost (.kill [14]) .skip)
  (.ghost (.kill [0, 3, 10, 14]) (.exit 0))))
  (.seq (.block 1 (.post (.reg [⟨(some 18), .op (.mv (.tmp 0)), none⟩,
    ⟨(some 19), .op (.mv (.tmp 1)), none⟩,
    ⟨(some 20), .op (.mv (.tmp 2)), none⟩,
    ⟨(some 21), .op (.mv (.tmp 3)), none⟩,
    ⟨(some 22), .op (.mv (.tmp 10)), none⟩,
    ⟨(some 23), .op (.idxStr (.tmp 21) (.tmp 22)), none⟩,
    ⟨(some 24), .call (.func i_spec_l02Step) [(.tmp 18), (.tmp 19), (.tmp 20), (.tmp 23)], none⟩,
    ⟨(some 17), .op (.mv (.tmp 24)), none⟩,
    ⟨(some 25), .op (.ext (.tmp 17) 0), none⟩,
    ⟨(some 26), .op (.ext (.tmp 17) 1), none⟩,
    ⟨(some 1), .op (.mv (.tmp 25)), none⟩,
    ⟨(some 2), .op (.mv (.tmp 26)), none⟩]) (.kill [17, 18, 19, 20, 21, 22, 23, 24, 25, 26])))
  (.post (.reg [⟨(some 15), .op (.mv (.tmp 10)), none⟩,
    ⟨(some 16), .op (.bin .add (.tmp 15) (.const (Value.int .i64 1))), none⟩,
    ⟨(some 10), .op (.mv (.tmp 16)), none⟩]) (.kill [15, 16]))))
def lo_spec_l02Go_0 : AC := (.loop lb_spec_l02Go_0)
def ac_spec_l02Go : AC := (.seq (.post (.reg [⟨(some 8), .op (.mv (.const (Value.int .i64 0))), none⟩,
    ⟨(some 9), .op (.mv (.const (Value.slice none 0 0))), none⟩]) (.kill [8, 9]))
  (.seq (.seq (.reg [⟨(some 10), .op (.mv (.const (Value.int .i64 0))), none⟩])
  (.block 0 lo_spec_l02Go_0))
  (.ghost (.kill [0, 3, 10]) (.seq (.post (.reg [⟨(some 27), .op (.mv (.tmp 1)), none⟩,
    ⟨(some 28), .op (.mv (.tmp 2)), none⟩,
    ⟨(some 8), .op (.mv (.tmp 27)), none⟩,
    ⟨(some 9), .op (.mv (.tmp 28)), none⟩]) (.kill [1, 2, 27, 28]))
  .ret))))
theorem cf_spec_l02Go : chkFn Try.prog i_spec_l02Go ac_spec_l02Go [.tmp 8, .tmp 9] 29 = true := by decide +kernel
def fa_spec_l02Go : FnA := ⟨ac_spec_l02Go, [.tmp 8, .tmp 9], 29, false, true, [.any, .any, (.lst 1 .any), .any], (.agg [.any, (.lst 1 .any)])⟩

/-- The checked code of spec l02Takes. -/
def ac_spec_l02Takes : AC := (.seq (.post (.reg [⟨(some 4), .op (.mv (.const (Value.bool false))), none⟩]) (.kill [4]))
  (.seq (.post (.reg [⟨(some 8), .op (.mv (.tmp 0)), none⟩,
    ⟨(some 9), .op (.mv (.tmp 0)), none⟩,
    ⟨(some 10), .op (.nilc (.tmp 9)), none⟩,
    ⟨(some 11), .op (.faddr (.tmp 10) 1), none⟩,
    ⟨(some 12), .op (.load 1 false (.tmp 11)), none⟩,
    ⟨(some 13), .op (.lits true 1 0 (Value.int .i64 0) []), none⟩,
    ⟨(some 14), .op (.mv (.tmp 1)), none⟩,
    ⟨(some 15), .call (.func i_spec_l02Go) [(.tmp 8), (.tmp 12), (.tmp 13), (.tmp 14)], none⟩,
    ⟨(some 7), .op (.mv (.tmp 15)), none⟩,
    ⟨(some 16), .op (.ext (.tmp 7) 0), none⟩,
    ⟨(some 17), .op (.ext (.tmp 7) 1), none⟩,
    ⟨(some 5), .op (.mv (.tmp 16)), none⟩,
    ⟨(some 6), .op (.mv (.tmp 17)), none⟩]) (.kill [1, 6, 7, 8, 9, 10, 11, 12, 13, 14, 15, 16, 17]))
  (.seq (.post (.reg [⟨(some 18), .op (.mv (.tmp 0)), none⟩,
    ⟨(some 19), .op (.nilc (.tmp 18)), none⟩,
    ⟨(some 20), .op (.faddr (.tmp 19) 2), none⟩,
    ⟨(some 21), .op (.load 1 false (.tmp 20)), none⟩,
    ⟨(some 22), .op (.mv (.tmp 5)), none⟩,
    ⟨(some 23), .op (.iaddrS (.tmp 21) (.tmp 22) 1), none⟩,
    ⟨(some 24), .op (.load 1 false (.tmp 23)), none⟩,
    ⟨(some 4), .op (.mv (.tmp 24)), none⟩]) (.kill [0, 5, 18, 19, 20, 21, 22, 23, 24]))
  .ret)))
theorem cf_spec_l02Takes : chkFn Try.prog i_spec_l02Takes ac_spec_l02Takes [.tmp 4] 25 = true := by decide +kernel
def fa_spec_l02Takes : FnA := ⟨ac_spec_l02Takes, [.tmp 4], 25, false, true, [], .any⟩

/-- The checked code of spec Takes. -/
def ac_spec_Takes : AC := (.seq (.post (.reg [⟨(some 2), .op (.box true (.tmp 0)), none⟩,
    ⟨(some 4), .op (.mv (.const (Value.bool false))), none⟩,
    ⟨(some 5), .op (.mv (.const (Value.int .i64 0))), none⟩]) (.kill [0, 4, 5]))
  (.seq (.seq (.post (.reg [⟨(some 7), .op (.mv (.tmp 1)), none⟩,
    ⟨(some 8), .call (.func i_spec_l02Given) [(.tmp 2), (.tmp 7)], none⟩,
    ⟨(some 6), .op (.mv (.tmp 8)), none⟩]) (.kill [7, 8]))
  (.seq (.post (.reg [⟨(some 9), .op (.mv (.tmp 6)), none⟩,
    ⟨(some 10), .op (.bin .neq (.tmp 9) (.const (Value.int .i64 0))), none⟩]) (.kill [9]))
  (.cond (.tmp 10) (.ghost (.kill [1, 2, 10]) (.seq (.post (.reg [⟨(some 11), .op (.mv (.tmp 6)), none⟩,
    ⟨(some 4), .op (.mv (.const (Value.bool false))), none⟩,
    ⟨(some 5), .op (.mv (.tmp 11)), none⟩]) (.kill [6, 11]))
  .ret))
  (.ghost (.kill [6, 10]) .skip))))
  (.seq (.post (.reg [⟨(some 12), .op (.mv (.tmp 1)), none⟩,
    ⟨(some 13), .call (.func i_spec_l02Takes) [(.tmp 2), (.tmp 12)], none⟩,
    ⟨(some 4), .op (.mv (.tmp 13)), none⟩,
    ⟨(some 5), .op (.mv (.const (Value.int .i64 0))), none⟩]) (.kill [1, 2, 12, 13]))
  .ret)))
theorem cf_spec_Takes : chkFn Try.prog i_spec_Takes ac_spec_Takes [.tmp 4, .tmp 5] 14 = true := by decide +kernel
def fa_spec_Takes : FnA := ⟨ac_spec_Takes, [.tmp 4, .tmp 5], 14, false, true, [], .any⟩

/-- The checked code of laws toBoolS. -/
def lb_laws_toBoolS_0 : AC := (.post (.seq (.seq (.post (.reg [⟨(some 8), .op (.mv (.tmp 4)), none⟩,
    ⟨(some 9), .op (.mv (.tmp 0)), none⟩,
    ⟨(some 10), .op (.len false (.tmp 9)), none⟩,
    ⟨(some 11), .op (.bin .lss (.tmp 8) (.tmp 10)), none⟩]) (.kill [8, 9, 10]))
  (.cond (.tmp 11) (.ghost (.kill [11]) .skip)
  (.ghost (.kill [0, 4, 11]) (.exit 0))))
  (.seq (.block 1 (.post (.reg [⟨(some 14), .op (.mv (.tmp 3)), none⟩,
    ⟨(some 15), .op (.mv (.tmp 4)), none⟩,
    ⟨(some 16), .op (.mv (.tmp 0)), none⟩,
    ⟨(some 17), .op (.mv (.tmp 4)), none⟩,
    ⟨(some 18), .op (.iaddrS (.tmp 16) (.tmp 17) 1), none⟩,
    ⟨(some 19), .op (.load 1 false (.tmp 18)), none⟩,
    ⟨(some 20), .op (.iaddrS (.tmp 14) (.tmp 15) 1), none⟩,
    ⟨none, .op (.store 1 (.tmp 20) (.tmp 19)), none⟩]) (.kill [14, 15, 16, 17, 18, 19, 20])))
  (.post (.reg [⟨(some 12), .op (.mv (.tmp 4)), none⟩,
    ⟨(some 13), .op (.bin .add (.tmp 12) (.const (Value.int .i64 1))), none⟩,
    ⟨(some 4), .op (.mv (.tmp 13)), none⟩]) (.kill [12, 13])))) .nv)
def lo_laws_toBoolS_0 : AC := (.loop lb_laws_toBoolS_0)
def ac_laws_toBoolS : AC := (.seq (.post (.reg [⟨(some 2), .op (.mv (.const (Value.slice none 0 0))), none⟩]) (.kill [2]))
  (.seq (.post (.reg [⟨(some 5), .op (.mv (.tmp 0)), none⟩,
    ⟨(some 6), .op (.len false (.tmp 5)), none⟩,
    ⟨(some 7), .op (.make (.tmp 6) (.tmp 6) 1 1 (Value.bool false)), none⟩,
    ⟨(some 3), .op (.mv (.tmp 7)), none⟩]) (.kill [5, 6, 7]))
  (.seq (.seq (.reg [⟨(some 4), .op (.mv (.const (Value.int .i64 0))), none⟩])
  (.post (.block 0 (.ghost .nv lo_laws_toBoolS_0)) .nv))
  (.ghost (.kill [0, 4]) (.seq (.post (.reg [⟨(some 21), .op (.mv (.tmp 3)), none⟩,
    ⟨(some 2), .op (.mv (.tmp 21)), none⟩]) (.kill [3, 21]))
  .ret)))))
theorem cf_laws_toBoolS : chkFn Try.prog i_laws_toBoolS ac_laws_toBoolS [.tmp 2] 22 = true := by decide +kernel
def fa_laws_toBoolS : FnA := ⟨ac_laws_toBoolS, [.tmp 2], 22, false, true, [], .any⟩

/-- The checked code of laws toPush. -/
def ac_laws_toPush : AC := (.seq (.post (.reg [⟨(some 1), .op (.box true (.tmp 0)), none⟩,
    ⟨(some 2), .op (.alloc (Value.agg #[Value.int .i64 0, Value.int .i64 0])), none⟩]) (.kill [0]))
  (.seq (.reg [⟨(some 3), .op (.alloc (Value.agg #[Value.int .i64 0, Value.int .i64 0])), none⟩])
  (.seq (.post (.reg [⟨(some 4), .op (.faddr (.tmp 1) 0), none⟩,
    ⟨(some 5), .op (.load 1 false (.tmp 4)), none⟩,
    ⟨(some 6), .op (.faddr (.tmp 3) 0), none⟩,
    ⟨none, .op (.store 1 (.tmp 6) (.tmp 5)), none⟩]) (.kill [4, 5, 6]))
  (.seq (.post (.reg [⟨(some 7), .op (.faddr (.tmp 1) 1), none⟩,
    ⟨(some 8), .op (.load 1 false (.tmp 7)), none⟩,
    ⟨(some 9), .op (.faddr (.tmp 3) 1), none⟩,
    ⟨none, .op (.store 1 (.tmp 9) (.tmp 8)), none⟩]) (.kill [1, 7, 8, 9]))
  (.seq (.post (.reg [⟨(some 10), .op (.load 2 true (.tmp 3)), none⟩,
    ⟨none, .op (.store 2 (.tmp 2) (.tmp 10)), none⟩]) (.kill [3, 10]))
  .ret)))))
theorem cf_laws_toPush : chkFn Try.prog i_laws_toPush ac_laws_toPush [.cell 2 2 true] 11 = true := by decide +kernel
def fa_laws_toPush : FnA := ⟨ac_laws_toPush, [.cell 2 2 true], 11, false, true, [], .any⟩

/-- The checked code of laws toPushS. -/
def lb_laws_toPushS_0 : AC := (.post (.seq (.seq (.post (.reg [⟨(some 8), .op (.mv (.tmp 4)), none⟩,
    ⟨(some 9), .op (.mv (.tmp 0)), none⟩,
    ⟨(some 10), .op (.len false (.tmp 9)), none⟩,
    ⟨(some 11), .op (.bin .lss (.tmp 8) (.tmp 10)), none⟩]) (.kill [8, 9, 10]))
  (.cond (.tmp 11) (.ghost (.kill [11]) .skip)
  (.ghost (.kill [0, 4, 11]) (.exit 0))))
  (.seq (.block 1 (.post (.reg [⟨(some 14), .op (.mv (.tmp 3)), none⟩,
    ⟨(some 15), .op (.mv (.tmp 4)), none⟩,
    ⟨(some 16), .op (.mv (.tmp 0)), none⟩,
    ⟨(some 17), .op (.mv (.tmp 4)), none⟩,
    ⟨(some 18), .op (.iaddrS (.tmp 16) (.tmp 17) 2), none⟩,
    ⟨(some 19), .op (.load 2 true (.tmp 18)), none⟩,
    ⟨(some 20), .call (.func i_laws_toPush) [(.tmp 19)], none⟩,
    ⟨(some 21), .op (.iaddrS (.tmp 14) (.tmp 15) 2), none⟩,
    ⟨none, .op (.store 2 (.tmp 21) (.tmp 20)), none⟩]) (.kill [14, 15, 16, 17, 18, 19, 20, 21])))
  (.post (.reg [⟨(some 12), .op (.mv (.tmp 4)), none⟩,
    ⟨(some 13), .op (.bin .add (.tmp 12) (.const (Value.int .i64 1))), none⟩,
    ⟨(some 4), .op (.mv (.tmp 13)), none⟩]) (.kill [12, 13])))) .nv)
def lo_laws_toPushS_0 : AC := (.loop lb_laws_toPushS_0)
def ac_laws_toPushS : AC := (.seq (.post (.reg [⟨(some 2), .op (.mv (.const (Value.slice none 0 0))), none⟩]) (.kill [2]))
  (.seq (.post (.reg [⟨(some 5), .op (.mv (.tmp 0)), none⟩,
    ⟨(some 6), .op (.len false (.tmp 5)), none⟩,
    ⟨(some 7), .op (.make (.tmp 6) (.tmp 6) 2 16 (Value.agg #[Value.int .i64 0, Value.int .i64 0])), none⟩,
    ⟨(some 3), .op (.mv (.tmp 7)), none⟩]) (.kill [5, 6, 7]))
  (.seq (.seq (.reg [⟨(some 4), .op (.mv (.const (Value.int .i64 0))), none⟩])
  (.post (.block 0 (.ghost .nv lo_laws_toPushS_0)) .nv))
  (.ghost (.kill [0, 4]) (.seq (.post (.reg [⟨(some 22), .op (.mv (.tmp 3)), none⟩,
    ⟨(some 2), .op (.mv (.tmp 22)), none⟩]) (.kill [3, 22]))
  .ret)))))
theorem cf_laws_toPushS : chkFn Try.prog i_laws_toPushS ac_laws_toPushS [.tmp 2] 23 = true := by decide +kernel
def fa_laws_toPushS : FnA := ⟨ac_laws_toPushS, [.tmp 2], 23, false, true, [], .any⟩

/-- The checked code of laws toPushSS. -/
def lb_laws_toPushSS_0 : AC := (.post (.seq (.seq (.post (.reg [⟨(some 8), .op (.mv (.tmp 4)), none⟩,
    ⟨(some 9), .op (.mv (.tmp 0)), none⟩,
    ⟨(some 10), .op (.len false (.tmp 9)), none⟩,
    ⟨(some 11), .op (.bin .lss (.tmp 8) (.tmp 10)), none⟩]) (.kill [8, 9, 10]))
  (.cond (.tmp 11) (.ghost (.kill [11]) .skip)
  (.ghost (.kill [0, 4, 11]) (.exit 0))))
  (.seq (.block 1 (.post (.reg [⟨(some 14), .op (.mv (.tmp 3)), none⟩,
    ⟨(some 15), .op (.mv (.tmp 4)), none⟩,
    ⟨(some 16), .op (.mv (.tmp 0)), none⟩,
    ⟨(some 17), .op (.mv (.tmp 4)), none⟩,
    ⟨(some 18), .op (.iaddrS (.tmp 16) (.tmp 17) 1), none⟩,
    ⟨(some 19), .op (.load 1 false (.tmp 18)), none⟩,
    ⟨(some 20), .call (.func i_laws_toPushS) [(.tmp 19)], none⟩,
    ⟨(some 21), .op (.iaddrS (.tmp 14) (.tmp 15) 1), none⟩,
    ⟨none, .op (.store 1 (.tmp 21) (.tmp 20)), none⟩]) (.kill [14, 15, 16, 17, 18, 19, 20, 21])))
  (.post (.reg [⟨(some 12), .op (.mv (.tmp 4)), none⟩,
    ⟨(some 13), .op (.bin .add (.tmp 12) (.const (Value.int .i64 1))), none⟩,
    ⟨(some 4), .op (.mv (.tmp 13)), none⟩]) (.kill [12, 13])))) .nv)
def lo_laws_toPushSS_0 : AC := (.loop lb_laws_toPushSS_0)
def ac_laws_toPushSS : AC := (.seq (.post (.reg [⟨(some 2), .op (.mv (.const (Value.slice none 0 0))), none⟩]) (.kill [2]))
  (.seq (.post (.reg [⟨(some 5), .op (.mv (.tmp 0)), none⟩,
    ⟨(some 6), .op (.len false (.tmp 5)), none⟩,
    ⟨(some 7), .op (.make (.tmp 6) (.tmp 6) 1 24 (Value.slice none 0 0)), none⟩,
    ⟨(some 3), .op (.mv (.tmp 7)), none⟩]) (.kill [5, 6, 7]))
  (.seq (.seq (.reg [⟨(some 4), .op (.mv (.const (Value.int .i64 0))), none⟩])
  (.post (.block 0 (.ghost .nv lo_laws_toPushSS_0)) .nv))
  (.ghost (.kill [0, 4]) (.seq (.post (.reg [⟨(some 22), .op (.mv (.tmp 3)), none⟩,
    ⟨(some 2), .op (.mv (.tmp 22)), none⟩]) (.kill [3, 22]))
  .ret)))))
theorem cf_laws_toPushSS : chkFn Try.prog i_laws_toPushSS ac_laws_toPushSS [.tmp 2] 23 = true := by decide +kernel
def fa_laws_toPushSS : FnA := ⟨ac_laws_toPushSS, [.tmp 2], 23, false, true, [], .any⟩

/-- The checked code of laws toInt64S. -/
def lb_laws_toInt64S_0 : AC := (.post (.seq (.seq (.post (.reg [⟨(some 8), .op (.mv (.tmp 4)), none⟩,
    ⟨(some 9), .op (.mv (.tmp 0)), none⟩,
    ⟨(some 10), .op (.len false (.tmp 9)), none⟩,
    ⟨(some 11), .op (.bin .lss (.tmp 8) (.tmp 10)), none⟩]) (.kill [8, 9, 10]))
  (.cond (.tmp 11) (.ghost (.kill [11]) .skip)
  (.ghost (.kill [0, 4, 11]) (.exit 0))))
  (.seq (.block 1 (.post (.reg [⟨(some 14), .op (.mv (.tmp 3)), none⟩,
    ⟨(some 15), .op (.mv (.tmp 4)), none⟩,
    ⟨(some 16), .op (.mv (.tmp 0)), none⟩,
    ⟨(some 17), .op (.mv (.tmp 4)), none⟩,
    ⟨(some 18), .op (.iaddrS (.tmp 16) (.tmp 17) 1), none⟩,
    ⟨(some 19), .op (.load 1 false (.tmp 18)), none⟩,
    ⟨(some 20), .op (.iaddrS (.tmp 14) (.tmp 15) 1), none⟩,
    ⟨none, .op (.store 1 (.tmp 20) (.tmp 19)), none⟩]) (.kill [14, 15, 16, 17, 18, 19, 20])))
  (.post (.reg [⟨(some 12), .op (.mv (.tmp 4)), none⟩,
    ⟨(some 13), .op (.bin .add (.tmp 12) (.const (Value.int .i64 1))), none⟩,
    ⟨(some 4), .op (.mv (.tmp 13)), none⟩]) (.kill [12, 13])))) .nv)
def lo_laws_toInt64S_0 : AC := (.loop lb_laws_toInt64S_0)
def ac_laws_toInt64S : AC := (.seq (.post (.reg [⟨(some 2), .op (.mv (.const (Value.slice none 0 0))), none⟩]) (.kill [2]))
  (.seq (.post (.reg [⟨(some 5), .op (.mv (.tmp 0)), none⟩,
    ⟨(some 6), .op (.len false (.tmp 5)), none⟩,
    ⟨(some 7), .op (.make (.tmp 6) (.tmp 6) 1 8 (Value.int .i64 0)), none⟩,
    ⟨(some 3), .op (.mv (.tmp 7)), none⟩]) (.kill [5, 6, 7]))
  (.seq (.seq (.reg [⟨(some 4), .op (.mv (.const (Value.int .i64 0))), none⟩])
  (.post (.block 0 (.ghost .nv lo_laws_toInt64S_0)) .nv))
  (.ghost (.kill [0, 4]) (.seq (.post (.reg [⟨(some 21), .op (.mv (.tmp 3)), none⟩,
    ⟨(some 2), .op (.mv (.tmp 21)), none⟩]) (.kill [3, 21]))
  .ret)))))
theorem cf_laws_toInt64S : chkFn Try.prog i_laws_toInt64S ac_laws_toInt64S [.tmp 2] 22 = true := by decide +kernel
def fa_laws_toInt64S : FnA := ⟨ac_laws_toInt64S, [.tmp 2], 22, false, true, [], .any⟩

/-- The checked code of laws toInt64SS. -/
def lb_laws_toInt64SS_0 : AC := (.post (.seq (.seq (.post (.reg [⟨(some 8), .op (.mv (.tmp 4)), none⟩,
    ⟨(some 9), .op (.mv (.tmp 0)), none⟩,
    ⟨(some 10), .op (.len false (.tmp 9)), none⟩,
    ⟨(some 11), .op (.bin .lss (.tmp 8) (.tmp 10)), none⟩]) (.kill [8, 9, 10]))
  (.cond (.tmp 11) (.ghost (.kill [11]) .skip)
  (.ghost (.kill [0, 4, 11]) (.exit 0))))
  (.seq (.block 1 (.post (.reg [⟨(some 14), .op (.mv (.tmp 3)), none⟩,
    ⟨(some 15), .op (.mv (.tmp 4)), none⟩,
    ⟨(some 16), .op (.mv (.tmp 0)), none⟩,
    ⟨(some 17), .op (.mv (.tmp 4)), none⟩,
    ⟨(some 18), .op (.iaddrS (.tmp 16) (.tmp 17) 1), none⟩,
    ⟨(some 19), .op (.load 1 false (.tmp 18)), none⟩,
    ⟨(some 20), .call (.func i_laws_toInt64S) [(.tmp 19)], none⟩,
    ⟨(some 21), .op (.iaddrS (.tmp 14) (.tmp 15) 1), none⟩,
    ⟨none, .op (.store 1 (.tmp 21) (.tmp 20)), none⟩]) (.kill [14, 15, 16, 17, 18, 19, 20, 21])))
  (.post (.reg [⟨(some 12), .op (.mv (.tmp 4)), none⟩,
    ⟨(some 13), .op (.bin .add (.tmp 12) (.const (Value.int .i64 1))), none⟩,
    ⟨(some 4), .op (.mv (.tmp 13)), none⟩]) (.kill [12, 13])))) .nv)
def lo_laws_toInt64SS_0 : AC := (.loop lb_laws_toInt64SS_0)
def ac_laws_toInt64SS : AC := (.seq (.post (.reg [⟨(some 2), .op (.mv (.const (Value.slice none 0 0))), none⟩]) (.kill [2]))
  (.seq (.post (.reg [⟨(some 5), .op (.mv (.tmp 0)), none⟩,
    ⟨(some 6), .op (.len false (.tmp 5)), none⟩,
    ⟨(some 7), .op (.make (.tmp 6) (.tmp 6) 1 24 (Value.slice none 0 0)), none⟩,
    ⟨(some 3), .op (.mv (.tmp 7)), none⟩]) (.kill [5, 6, 7]))
  (.seq (.seq (.reg [⟨(some 4), .op (.mv (.const (Value.int .i64 0))), none⟩])
  (.post (.block 0 (.ghost .nv lo_laws_toInt64SS_0)) .nv))
  (.ghost (.kill [0, 4]) (.seq (.post (.reg [⟨(some 22), .op (.mv (.tmp 3)), none⟩,
    ⟨(some 2), .op (.mv (.tmp 22)), none⟩]) (.kill [3, 22]))
  .ret)))))
theorem cf_laws_toInt64SS : chkFn Try.prog i_laws_toInt64SS ac_laws_toInt64SS [.tmp 2] 23 = true := by decide +kernel
def fa_laws_toInt64SS : FnA := ⟨ac_laws_toInt64SS, [.tmp 2], 23, false, true, [], .any⟩

/-- The checked code of laws toInt64SSS. -/
def lb_laws_toInt64SSS_0 : AC := (.post (.seq (.seq (.post (.reg [⟨(some 8), .op (.mv (.tmp 4)), none⟩,
    ⟨(some 9), .op (.mv (.tmp 0)), none⟩,
    ⟨(some 10), .op (.len false (.tmp 9)), none⟩,
    ⟨(some 11), .op (.bin .lss (.tmp 8) (.tmp 10)), none⟩]) (.kill [8, 9, 10]))
  (.cond (.tmp 11) (.ghost (.kill [11]) .skip)
  (.ghost (.kill [0, 4, 11]) (.exit 0))))
  (.seq (.block 1 (.post (.reg [⟨(some 14), .op (.mv (.tmp 3)), none⟩,
    ⟨(some 15), .op (.mv (.tmp 4)), none⟩,
    ⟨(some 16), .op (.mv (.tmp 0)), none⟩,
    ⟨(some 17), .op (.mv (.tmp 4)), none⟩,
    ⟨(some 18), .op (.iaddrS (.tmp 16) (.tmp 17) 1), none⟩,
    ⟨(some 19), .op (.load 1 false (.tmp 18)), none⟩,
    ⟨(some 20), .call (.func i_laws_toInt64SS) [(.tmp 19)], none⟩,
    ⟨(some 21), .op (.iaddrS (.tmp 14) (.tmp 15) 1), none⟩,
    ⟨none, .op (.store 1 (.tmp 21) (.tmp 20)), none⟩]) (.kill [14, 15, 16, 17, 18, 19, 20, 21])))
  (.post (.reg [⟨(some 12), .op (.mv (.tmp 4)), none⟩,
    ⟨(some 13), .op (.bin .add (.tmp 12) (.const (Value.int .i64 1))), none⟩,
    ⟨(some 4), .op (.mv (.tmp 13)), none⟩]) (.kill [12, 13])))) .nv)
def lo_laws_toInt64SSS_0 : AC := (.loop lb_laws_toInt64SSS_0)
def ac_laws_toInt64SSS : AC := (.seq (.post (.reg [⟨(some 2), .op (.mv (.const (Value.slice none 0 0))), none⟩]) (.kill [2]))
  (.seq (.post (.reg [⟨(some 5), .op (.mv (.tmp 0)), none⟩,
    ⟨(some 6), .op (.len false (.tmp 5)), none⟩,
    ⟨(some 7), .op (.make (.tmp 6) (.tmp 6) 1 24 (Value.slice none 0 0)), none⟩,
    ⟨(some 3), .op (.mv (.tmp 7)), none⟩]) (.kill [5, 6, 7]))
  (.seq (.seq (.reg [⟨(some 4), .op (.mv (.const (Value.int .i64 0))), none⟩])
  (.post (.block 0 (.ghost .nv lo_laws_toInt64SSS_0)) .nv))
  (.ghost (.kill [0, 4]) (.seq (.post (.reg [⟨(some 22), .op (.mv (.tmp 3)), none⟩,
    ⟨(some 2), .op (.mv (.tmp 22)), none⟩]) (.kill [3, 22]))
  .ret)))))
theorem cf_laws_toInt64SSS : chkFn Try.prog i_laws_toInt64SSS ac_laws_toInt64SSS [.tmp 2] 23 = true := by decide +kernel
def fa_laws_toInt64SSS : FnA := ⟨ac_laws_toInt64SSS, [.tmp 2], 23, false, true, [], .any⟩

/-- The checked code of laws toChecker. -/
def ac_laws_toChecker : AC := (.seq (.post (.reg [⟨(some 1), .op (.box true (.tmp 0)), none⟩,
    ⟨(some 2), .op (.alloc (Value.agg #[Value.int .i64 0, Value.int .i64 0, Value.slice none 0 0, Value.slice none 0 0, Value.slice none 0 0, Value.slice none 0 0])), none⟩]) (.kill [0]))
  (.seq (.reg [⟨(some 3), .op (.alloc (Value.agg #[Value.int .i64 0, Value.int .i64 0, Value.slice none 0 0, Value.slice none 0 0, Value.slice none 0 0, Value.slice none 0 0])), none⟩])
  (.seq (.post (.reg [⟨(some 4), .op (.faddr (.tmp 1) 0), none⟩,
    ⟨(some 5), .op (.load 1 false (.tmp 4)), none⟩,
    ⟨(some 6), .op (.faddr (.tmp 3) 0), none⟩,
    ⟨none, .op (.store 1 (.tmp 6) (.tmp 5)), none⟩]) (.kill [4, 5, 6]))
  (.seq (.post (.reg [⟨(some 7), .op (.faddr (.tmp 1) 1), none⟩,
    ⟨(some 8), .op (.load 1 false (.tmp 7)), none⟩,
    ⟨(some 9), .op (.faddr (.tmp 3) 1), none⟩,
    ⟨none, .op (.store 1 (.tmp 9) (.tmp 8)), none⟩]) (.kill [7, 8, 9]))
  (.seq (.post (.reg [⟨(some 10), .op (.faddr (.tmp 1) 2), none⟩,
    ⟨(some 11), .op (.load 1 false (.tmp 10)), none⟩,
    ⟨(some 12), .call (.func i_laws_toBoolS) [(.tmp 11)], none⟩,
    ⟨(some 13), .op (.faddr (.tmp 3) 2), none⟩,
    ⟨none, .op (.store 1 (.tmp 13) (.tmp 12)), none⟩]) (.kill [10, 11, 12, 13]))
  (.seq (.post (.reg [⟨(some 14), .op (.faddr (.tmp 1) 3), none⟩,
    ⟨(some 15), .op (.load 1 false (.tmp 14)), none⟩,
    ⟨(some 16), .call (.func i_laws_toPushSS) [(.tmp 15)], none⟩,
    ⟨(some 17), .op (.faddr (.tmp 3) 3), none⟩,
    ⟨none, .op (.store 1 (.tmp 17) (.tmp 16)), none⟩]) (.kill [14, 15, 16, 17]))
  (.seq (.post (.reg [⟨(some 18), .op (.faddr (.tmp 1) 4), none⟩,
    ⟨(some 19), .op (.load 1 false (.tmp 18)), none⟩,
    ⟨(some 20), .call (.func i_laws_toInt64SSS) [(.tmp 19)], none⟩,
    ⟨(some 21), .op (.faddr (.tmp 3) 4), none⟩,
    ⟨none, .op (.store 1 (.tmp 21) (.tmp 20)), none⟩]) (.kill [18, 19, 20, 21]))
  (.seq (.post (.reg [⟨(some 22), .op (.faddr (.tmp 1) 5), none⟩,
    ⟨(some 23), .op (.load 1 false (.tmp 22)), none⟩,
    ⟨(some 24), .call (.func i_laws_toInt64SS) [(.tmp 23)], none⟩,
    ⟨(some 25), .op (.faddr (.tmp 3) 5), none⟩,
    ⟨none, .op (.store 1 (.tmp 25) (.tmp 24)), none⟩]) (.kill [1, 22, 23, 24, 25]))
  (.seq (.post (.reg [⟨(some 26), .op (.load 6 true (.tmp 3)), none⟩,
    ⟨none, .op (.store 6 (.tmp 2) (.tmp 26)), none⟩]) (.kill [3, 26]))
  .ret)))))))))
theorem cf_laws_toChecker : chkFn Try.prog i_laws_toChecker ac_laws_toChecker [.cell 2 6 true] 27 = true := by decide +kernel
def fa_laws_toChecker : FnA := ⟨ac_laws_toChecker, [.cell 2 6 true], 27, false, true, [], .any⟩

/-- The checked code of impl size bool . -/
def ac_impl_size_bool : AC := (.seq (.post (.reg [⟨(some 2), .op (.mv (.const (Value.int .i64 0))), none⟩]) (.kill [2]))
  (.seq (.post (.reg [⟨(some 3), .op (.mv (.tmp 0)), none⟩,
    ⟨(some 4), .op (.len false (.tmp 3)), none⟩,
    ⟨(some 2), .op (.mv (.tmp 4)), none⟩]) (.kill [0, 3, 4]))
  .ret))
theorem cf_impl_size_bool : chkFn Try.prog i_impl_size_bool ac_impl_size_bool [.tmp 2] 5 = true := by decide +kernel
def fa_impl_size_bool : FnA := ⟨ac_impl_size_bool, [.tmp 2], 5, false, true, [], .any⟩

end Go.Proofs.Ytlahdcofclkjjaa
