/- The code of the functions, checked against the loaded program; printed by a program (gen2.py). -/
import Derived.Test.YtpjadhjjeafffaaProg
import Derived.Test.YtpjadhjjeafffaaAw25
import Derived.Test.YtpjadhjjeafffaaG0
set_option linter.unusedVariables false
set_option maxRecDepth 100000
namespace Go.Proofs.Ytpjadhjjeafffaa
open Aw

/-- The checked code of impl PutAt. -/
def ac_impl_PutAt : AC := (.seq (.post (.reg [⟨(some 6), .op (.mv (.const (Value.string ⟨#[]⟩))), none⟩,
    ⟨(some 7), .op (.mv (.const (Value.int .i64 0))), none⟩]) (.kill [6, 7]))
  (.seq (.block 0 (.seq (.post (.reg [⟨(some 9), .op (.mv (.tmp 0)), none⟩,
    ⟨(some 10), .call (.func i_impl_ValidWord) [(.tmp 9)], none⟩,
    ⟨(some 11), .op (.un .not (.tmp 10)), none⟩,
    ⟨(some 12), .op (.mv (.tmp 11)), none⟩,
    ⟨(some 13), .op (.mv (.tmp 2)), some (12, false)⟩,
    ⟨(some 14), .call (.func i_impl_ValidWord) [(.tmp 13)], some (12, false)⟩,
    ⟨(some 15), .op (.un .not (.tmp 14)), some (12, false)⟩,
    ⟨(some 16), .op (.pick (.tmp 12) (.const (Value.bool true)) (.tmp 15)), none⟩,
    ⟨(some 8), .op (.mv (.tmp 16)), none⟩]) (.kill [9, 10, 11, 12, 13, 14, 15, 16]))
  (.cond (.tmp 8) (.ghost (.kill [0, 1, 2, 8]) (.seq (.reg [⟨(some 6), .op (.mv (.const (Value.string ⟨#[]⟩))), none⟩,
    ⟨(some 7), .op (.mv (.const (Value.int .i64 1))), none⟩])
  .ret))
  (.ghost (.kill [8]) (.seq (.post (.reg [⟨(some 18), .op (.mv (.tmp 1)), none⟩,
    ⟨(some 19), .op (.mv (.tmp 0)), none⟩,
    ⟨(some 20), .op (.len true (.tmp 19)), none⟩,
    ⟨(some 21), .call (.func i_impl_within) [(.tmp 18), (.const (Value.int .i64 0)), (.tmp 20)], none⟩,
    ⟨(some 22), .op (.un .not (.tmp 21)), none⟩,
    ⟨(some 17), .op (.mv (.tmp 22)), none⟩]) (.kill [18, 19, 20, 21, 22]))
  (.cond (.tmp 17) (.ghost (.kill [0, 1, 2, 17]) (.seq (.reg [⟨(some 6), .op (.mv (.const (Value.string ⟨#[]⟩))), none⟩,
    ⟨(some 7), .op (.mv (.const (Value.int .i64 2))), none⟩])
  .ret))
  (.ghost (.kill [17]) (.seq (.post (.reg [⟨(some 24), .op (.mv (.tmp 2)), none⟩,
    ⟨(some 25), .call (.func i_impl_isMatched) [(.tmp 24)], none⟩,
    ⟨(some 26), .op (.un .not (.tmp 25)), none⟩,
    ⟨(some 23), .op (.mv (.tmp 26)), none⟩]) (.kill [24, 25, 26]))
  (.cond (.tmp 23) (.ghost (.kill [0, 1, 2, 23]) (.seq (.reg [⟨(some 6), .op (.mv (.const (Value.string ⟨#[]⟩))), none⟩,
    ⟨(some 7), .op (.mv (.const (Value.int .i64 4))), none⟩])
  .ret))
  (.ghost (.kill [23]) .skip))))))))))
  (.seq (.post (.draw [⟨0, ⟨(some 27), .op (.mv (.tmp 0)), none⟩, []⟩,
    ⟨1, ⟨(some 28), .op (.mv (.tmp 1)), none⟩, []⟩,
    ⟨2, ⟨(some 29), .op (.slcStr (.tmp 27) none (some (.tmp 28))), none⟩, []⟩,
    ⟨3, ⟨(some 30), .op (.mv (.tmp 2)), none⟩, []⟩,
    ⟨4, ⟨(some 31), .op (.bin .add (.tmp 29) (.tmp 30)), none⟩, []⟩,
    ⟨5, ⟨(some 32), .op (.mv (.tmp 0)), none⟩, []⟩,
    ⟨6, ⟨(some 33), .op (.mv (.tmp 1)), none⟩, []⟩,
    ⟨7, ⟨(some 34), .op (.slcStr (.tmp 32) (some (.tmp 33)) none), none⟩, []⟩,
    ⟨8, ⟨(some 35), .op (.bin .add (.tmp 31) (.tmp 34)), none⟩, []⟩,
    ⟨9, ⟨(some 36), .call (.func i_impl_orLimit) [(.tmp 35)], none⟩, []⟩,
    ⟨10, ⟨(some 37), .op (.ext (.tmp 36) 0), none⟩, []⟩,
    ⟨11, ⟨(some 38), .op (.ext (.tmp 36) 1), none⟩, []⟩,
    ⟨12, ⟨(some 6), .op (.mv (.tmp 37)), none⟩, []⟩,
    ⟨13, ⟨(some 7), .op (.mv (.tmp 38)), none⟩, []⟩]
    [0, 0, 3, 0, 15, 0, 0, 96, 255, 511, 1023, 1023, 4095, 8191]) (.kill [0, 1, 2, 27, 28, 29, 30, 31, 32, 33, 34, 35, 36, 37, 38]))
  .ret)))
theorem cf_impl_PutAt : chkFn Try.prog i_impl_PutAt ac_impl_PutAt [.tmp 6, .tmp 7] 39 = true := by decide +kernel
def fa_impl_PutAt : FnA := ⟨ac_impl_PutAt, [.tmp 6, .tmp 7], 39, false, true⟩

/-- The checked code of impl bodyAt. -/
def ac_impl_bodyAt : AC := (.seq (.post (.reg [⟨(some 4), .op (.mv (.const (Value.int .i64 0))), none⟩,
    ⟨(some 5), .op (.mv (.const (Value.int .i64 0))), none⟩]) (.kill [4, 5]))
  (.seq (.block 0 (.seq (.post (.reg [⟨(some 8), .op (.mv (.tmp 0)), none⟩,
    ⟨(some 9), .call (.func i_impl_ValidWord) [(.tmp 8)], none⟩,
    ⟨(some 10), .op (.un .not (.tmp 9)), none⟩,
    ⟨(some 7), .op (.mv (.tmp 10)), none⟩]) (.kill [8, 9, 10]))
  (.cond (.tmp 7) (.ghost (.kill [0, 1, 7]) (.seq (.reg [⟨(some 4), .op (.mv (.const (Value.int .i64 0))), none⟩,
    ⟨(some 5), .op (.mv (.const (Value.int .i64 1))), none⟩])
  .ret))
  (.ghost (.kill [7]) (.seq (.post (.reg [⟨(some 12), .op (.mv (.tmp 1)), none⟩,
    ⟨(some 13), .op (.mv (.tmp 0)), none⟩,
    ⟨(some 14), .op (.len true (.tmp 13)), none⟩,
    ⟨(some 15), .op (.bin .sub (.tmp 14) (.const (Value.int .i64 1))), none⟩,
    ⟨(some 16), .call (.func i_impl_within) [(.tmp 12), (.const (Value.int .i64 0)), (.tmp 15)], none⟩,
    ⟨(some 17), .op (.un .not (.tmp 16)), none⟩,
    ⟨(some 11), .op (.mv (.tmp 17)), none⟩]) (.kill [12, 13, 14, 15, 16, 17]))
  (.cond (.tmp 11) (.ghost (.kill [0, 1, 11]) (.seq (.reg [⟨(some 4), .op (.mv (.const (Value.int .i64 0))), none⟩,
    ⟨(some 5), .op (.mv (.const (Value.int .i64 2))), none⟩])
  .ret))
  (.ghost (.kill [11]) .skip)))))))
  (.seq (.post (.reg [⟨(some 18), .op (.mv (.tmp 0)), none⟩,
    ⟨(some 19), .call (.func i_impl_match) [(.tmp 18)], none⟩,
    ⟨(some 20), .op (.field (.tmp 19) 0 1 false), none⟩,
    ⟨(some 21), .op (.mv (.tmp 1)), none⟩,
    ⟨(some 22), .op (.iaddrS (.tmp 20) (.tmp 21) 1), none⟩,
    ⟨(some 23), .op (.load 1 false (.tmp 22)), none⟩,
    ⟨(some 6), .op (.mv (.tmp 23)), none⟩]) (.kill [18, 19, 20, 21, 22, 23]))
  (.seq (.seq (.post (.reg [⟨(some 24), .op (.mv (.tmp 0)), none⟩,
    ⟨(some 25), .op (.mv (.tmp 1)), none⟩,
    ⟨(some 26), .op (.idxStr (.tmp 24) (.tmp 25)), none⟩,
    ⟨(some 27), .call (.func i_impl_isCall) [(.tmp 26)], none⟩,
    ⟨(some 28), .op (.un .not (.tmp 27)), none⟩,
    ⟨(some 29), .op (.mv (.tmp 28)), none⟩,
    ⟨(some 30), .op (.mv (.tmp 6)), some (29, false)⟩,
    ⟨(some 31), .op (.bin .lss (.tmp 30) (.const (Value.int .i64 0))), some (29, false)⟩,
    ⟨(some 32), .op (.pick (.tmp 29) (.const (Value.bool true)) (.tmp 31)), none⟩]) (.kill [0, 1, 24, 25, 26, 27, 28, 29, 30, 31]))
  (.cond (.tmp 32) (.ghost (.kill [6, 32]) (.seq (.reg [⟨(some 4), .op (.mv (.const (Value.int .i64 0))), none⟩,
    ⟨(some 5), .op (.mv (.const (Value.int .i64 4))), none⟩])
  .ret))
  (.ghost (.kill [32]) .skip)))
  (.seq (.post (.reg [⟨(some 33), .op (.mv (.tmp 6)), none⟩,
    ⟨(some 4), .op (.mv (.tmp 33)), none⟩,
    ⟨(some 5), .op (.mv (.const (Value.int .i64 0))), none⟩]) (.kill [6, 33]))
  .ret)))))
theorem cf_impl_bodyAt : chkFn Try.prog i_impl_bodyAt ac_impl_bodyAt [.tmp 4, .tmp 5] 34 = true := by decide +kernel
def fa_impl_bodyAt : FnA := ⟨ac_impl_bodyAt, [.tmp 4, .tmp 5], 34, false, true⟩

/-- The checked code of impl CutMatched. -/
def ac_impl_CutMatched : AC := (.seq (.post (.reg [⟨(some 4), .op (.mv (.const (Value.string ⟨#[]⟩))), none⟩,
    ⟨(some 5), .op (.mv (.const (Value.int .i64 0))), none⟩]) (.kill [4, 5]))
  (.seq (.post (.reg [⟨(some 9), .op (.mv (.tmp 0)), none⟩,
    ⟨(some 10), .op (.mv (.tmp 1)), none⟩,
    ⟨(some 11), .call (.func i_impl_bodyAt) [(.tmp 9), (.tmp 10)], none⟩,
    ⟨(some 8), .op (.mv (.tmp 11)), none⟩,
    ⟨(some 12), .op (.ext (.tmp 8) 0), none⟩,
    ⟨(some 13), .op (.ext (.tmp 8) 1), none⟩,
    ⟨(some 6), .op (.mv (.tmp 12)), none⟩,
    ⟨(some 7), .op (.mv (.tmp 13)), none⟩]) (.kill [8, 9, 10, 11, 12, 13]))
  (.seq (.seq (.post (.reg [⟨(some 14), .op (.mv (.tmp 7)), none⟩,
    ⟨(some 15), .op (.bin .neq (.tmp 14) (.const (Value.int .i64 0))), none⟩]) (.kill [14]))
  (.cond (.tmp 15) (.ghost (.kill [0, 1, 6, 15]) (.seq (.post (.reg [⟨(some 16), .op (.mv (.tmp 7)), none⟩,
    ⟨(some 4), .op (.mv (.const (Value.string ⟨#[]⟩))), none⟩,
    ⟨(some 5), .op (.mv (.tmp 16)), none⟩]) (.kill [7, 16]))
  .ret))
  (.ghost (.kill [7, 15]) .skip)))
  (.seq (.post (.draw [⟨0, ⟨(some 17), .op (.mv (.tmp 0)), none⟩, []⟩,
    ⟨1, ⟨(some 18), .op (.mv (.tmp 1)), none⟩, []⟩,
    ⟨2, ⟨(some 19), .op (.slcStr (.tmp 17) none (some (.tmp 18))), none⟩, []⟩,
    ⟨3, ⟨(some 20), .op (.mv (.tmp 0)), none⟩, []⟩,
    ⟨4, ⟨(some 21), .op (.mv (.tmp 6)), none⟩, []⟩,
    ⟨5, ⟨(some 22), .op (.bin .add (.tmp 21) (.const (Value.int .i64 1))), none⟩, []⟩,
    ⟨6, ⟨(some 23), .op (.slcStr (.tmp 20) (some (.tmp 22)) none), none⟩, []⟩,
    ⟨7, ⟨(some 24), .op (.bin .add (.tmp 19) (.tmp 23)), none⟩, []⟩,
    ⟨8, ⟨(some 4), .op (.mv (.tmp 24)), none⟩, []⟩,
    ⟨9, ⟨(some 5), .op (.mv (.const (Value.int .i64 0))), none⟩, []⟩]
    [0, 0, 3, 0, 0, 16, 56, 127, 255, 511]) (.kill [0, 1, 6, 17, 18, 19, 20, 21, 22, 23, 24]))
  .ret))))
theorem cf_impl_CutMatched : chkFn Try.prog i_impl_CutMatched ac_impl_CutMatched [.tmp 4, .tmp 5] 25 = true := by decide +kernel
def fa_impl_CutMatched : FnA := ⟨ac_impl_CutMatched, [.tmp 4, .tmp 5], 25, false, true⟩

/-- The checked code of impl editTree. -/
def ac_impl_editTree : AC := (.seq (.post (.reg [⟨(some 3), .op (.box true (.tmp 1)), none⟩,
    ⟨(some 4), .op (.mv (.const (Value.string ⟨#[]⟩))), none⟩,
    ⟨(some 5), .op (.mv (.const (Value.int .i64 0))), none⟩]) (.kill [1, 4, 5]))
  (.seq (.seq (.post (.reg [⟨(some 10), .op (.faddr (.tmp 3) 0), none⟩,
    ⟨(some 11), .op (.load 1 false (.tmp 10)), none⟩]) (.kill [10]))
  (.block 0 (.seq (.post (.reg [⟨(some 13), .op (.bin .eql (.tmp 11) (.const (Value.int .i64 1))), none⟩,
    ⟨(some 12), .op (.mv (.tmp 13)), none⟩]) (.kill [13]))
  (.cond (.tmp 12) (.ghost (.kill [11, 12]) (.seq (.post (.reg [⟨(some 14), .op (.mv (.tmp 0)), none⟩,
    ⟨(some 15), .op (.faddr (.tmp 3) 1), none⟩,
    ⟨(some 16), .op (.load 1 false (.tmp 15)), none⟩,
    ⟨(some 17), .op (.faddr (.tmp 3) 3), none⟩,
    ⟨(some 18), .op (.load 1 false (.tmp 17)), none⟩,
    ⟨(some 19), .call (.func i_impl_PutAt) [(.tmp 14), (.tmp 16), (.tmp 18)], none⟩,
    ⟨(some 20), .op (.ext (.tmp 19) 0), none⟩,
    ⟨(some 21), .op (.ext (.tmp 19) 1), none⟩,
    ⟨(some 4), .op (.mv (.tmp 20)), none⟩,
    ⟨(some 5), .op (.mv (.tmp 21)), none⟩]) (.kill [0, 3, 14, 15, 16, 17, 18, 19, 20, 21]))
  .ret))
  (.ghost (.kill [12]) (.seq (.post (.reg [⟨(some 23), .op (.bin .eql (.tmp 11) (.const (Value.int .i64 2))), none⟩,
    ⟨(some 22), .op (.mv (.tmp 23)), none⟩]) (.kill [23]))
  (.cond (.tmp 22) (.ghost (.kill [11, 22]) (.seq (.post (.reg [⟨(some 24), .op (.mv (.tmp 0)), none⟩,
    ⟨(some 25), .op (.faddr (.tmp 3) 1), none⟩,
    ⟨(some 26), .op (.load 1 false (.tmp 25)), none⟩,
    ⟨(some 27), .call (.func i_impl_CutMatched) [(.tmp 24), (.tmp 26)], none⟩,
    ⟨(some 28), .op (.ext (.tmp 27) 0), none⟩,
    ⟨(some 29), .op (.ext (.tmp 27) 1), none⟩,
    ⟨(some 4), .op (.mv (.tmp 28)), none⟩,
    ⟨(some 5), .op (.mv (.tmp 29)), none⟩]) (.kill [0, 3, 24, 25, 26, 27, 28, 29]))
  .ret))
  (.ghost (.kill [22]) (.seq (.post (.reg [⟨(some 31), .op (.bin .eql (.tmp 11) (.const (Value.int .i64 4))), none⟩,
    ⟨(some 30), .op (.mv (.tmp 31)), none⟩]) (.kill [11, 31]))
  (.cond (.tmp 30) (.ghost (.kill [30]) (.seq (.block 1 (.seq (.post (.reg [⟨(some 33), .op (.faddr (.tmp 3) 1), none⟩,
    ⟨(some 34), .op (.load 1 false (.tmp 33)), none⟩,
    ⟨(some 35), .op (.faddr (.tmp 3) 2), none⟩,
    ⟨(some 36), .op (.load 1 false (.tmp 35)), none⟩,
    ⟨(some 37), .call (.func i_impl_within) [(.tmp 34), (.const (Value.int .i64 0)), (.tmp 36)], none⟩,
    ⟨(some 38), .op (.un .not (.tmp 37)), none⟩,
    ⟨(some 39), .op (.mv (.tmp 38)), none⟩,
    ⟨(some 40), .op (.faddr (.tmp 3) 2), some (39, false)⟩,
    ⟨(some 41), .op (.load 1 false (.tmp 40)), some (39, false)⟩,
    ⟨(some 42), .op (.mv (.tmp 0)), some (39, false)⟩,
    ⟨(some 43), .op (.len true (.tmp 42)), some (39, false)⟩,
    ⟨(some 44), .op (.bin .gtr (.tmp 41) (.tmp 43)), some (39, false)⟩,
    ⟨(some 45), .op (.pick (.tmp 39) (.const (Value.bool true)) (.tmp 44)), none⟩,
    ⟨(some 32), .op (.mv (.tmp 45)), none⟩]) (.kill [33, 34, 35, 36, 37, 38, 39, 40, 41, 42, 43, 44, 45]))
  (.cond (.tmp 32) (.ghost (.kill [0, 3, 32]) (.seq (.reg [⟨(some 4), .op (.mv (.const (Value.string ⟨#[]⟩))), none⟩,
    ⟨(some 5), .op (.mv (.const (Value.int .i64 2))), none⟩])
  .ret))
  (.ghost (.kill [32]) (.seq (.post (.reg [⟨(some 47), .op (.mv (.tmp 0)), none⟩,
    ⟨(some 48), .op (.faddr (.tmp 3) 1), none⟩,
    ⟨(some 49), .op (.load 1 false (.tmp 48)), none⟩,
    ⟨(some 50), .op (.faddr (.tmp 3) 2), none⟩,
    ⟨(some 51), .op (.load 1 false (.tmp 50)), none⟩,
    ⟨(some 52), .op (.slcStr (.tmp 47) (some (.tmp 49)) (some (.tmp 51))), none⟩,
    ⟨(some 53), .call (.func i_impl_isMatched) [(.tmp 52)], none⟩,
    ⟨(some 54), .op (.un .not (.tmp 53)), none⟩,
    ⟨(some 46), .op (.mv (.tmp 54)), none⟩]) (.kill [47, 48, 49, 50, 51, 52, 53, 54]))
  (.cond (.tmp 46) (.ghost (.kill [0, 3, 46]) (.seq (.reg [⟨(some 4), .op (.mv (.const (Value.string ⟨#[]⟩))), none⟩,
    ⟨(some 5), .op (.mv (.const (Value.int .i64 4))), none⟩])
  .ret))
  (.ghost (.kill [46]) .skip)))))))
  (.seq (.post (.draw [⟨0, ⟨(some 55), .op (.mv (.tmp 0)), none⟩, []⟩,
    ⟨1, ⟨(some 56), .op (.faddr (.tmp 3) 1), none⟩, []⟩,
    ⟨2, ⟨(some 57), .op (.load 1 false (.tmp 56)), none⟩, []⟩,
    ⟨3, ⟨(some 58), .op (.slcStr (.tmp 55) none (some (.tmp 57))), none⟩, []⟩,
    ⟨4, ⟨(some 59), .op (.faddr (.tmp 3) 3), none⟩, []⟩,
    ⟨5, ⟨(some 60), .op (.load 1 false (.tmp 59)), none⟩, []⟩,
    ⟨6, ⟨(some 61), .op (.slcStr (.tmp 60) none (some (.const (Value.int .i64 1)))), none⟩, []⟩,
    ⟨7, ⟨(some 62), .op (.bin .add (.tmp 58) (.tmp 61)), none⟩, []⟩,
    ⟨8, ⟨(some 63), .op (.mv (.tmp 0)), none⟩, []⟩,
    ⟨9, ⟨(some 64), .op (.faddr (.tmp 3) 1), none⟩, []⟩,
    ⟨10, ⟨(some 65), .op (.load 1 false (.tmp 64)), none⟩, []⟩,
    ⟨11, ⟨(some 66), .op (.faddr (.tmp 3) 2), none⟩, []⟩,
    ⟨12, ⟨(some 67), .op (.load 1 false (.tmp 66)), none⟩, []⟩,
    ⟨13, ⟨(some 68), .op (.slcStr (.tmp 63) (some (.tmp 65)) (some (.tmp 67))), none⟩, []⟩,
    ⟨14, ⟨(some 69), .op (.bin .add (.tmp 62) (.tmp 68)), none⟩, []⟩,
    ⟨15, ⟨(some 70), .op (.faddr (.tmp 3) 3), none⟩, []⟩,
    ⟨16, ⟨(some 71), .op (.load 1 false (.tmp 70)), none⟩, []⟩,
    ⟨17, ⟨(some 72), .op (.slcStr (.tmp 71) (some (.const (Value.int .i64 1))) none), none⟩, []⟩,
    ⟨18, ⟨(some 73), .op (.bin .add (.tmp 69) (.tmp 72)), none⟩, []⟩,
    ⟨19, ⟨(some 74), .op (.mv (.tmp 0)), none⟩, []⟩,
    ⟨20, ⟨(some 75), .op (.faddr (.tmp 3) 2), none⟩, []⟩,
    ⟨21, ⟨(some 76), .op (.load 1 false (.tmp 75)), none⟩, []⟩,
    ⟨22, ⟨(some 77), .op (.slcStr (.tmp 74) (some (.tmp 76)) none), none⟩, []⟩,
    ⟨23, ⟨(some 78), .op (.bin .add (.tmp 73) (.tmp 77)), none⟩, []⟩,
    ⟨24, ⟨(some 79), .call (.func i_impl_orLimit) [(.tmp 78)], none⟩, []⟩,
    ⟨25, ⟨(some 80), .op (.ext (.tmp 79) 0), none⟩, []⟩,
    ⟨26, ⟨(some 81), .op (.ext (.tmp 79) 1), none⟩, []⟩,
    ⟨27, ⟨(some 4), .op (.mv (.tmp 80)), none⟩, []⟩,
    ⟨28, ⟨(some 5), .op (.mv (.tmp 81)), none⟩, []⟩]
    [0, 0, 2, 7, 0, 16, 48, 127, 0, 0, 512, 0, 2048, 7936, 16383, 0, 32768, 98304, 262143, 0, 0, 1048576, 3670016, 8388607, 16777215, 33554431, 33554431, 134217727, 268435455]) (.kill [0, 3, 55, 56, 57, 58, 59, 60, 61, 62, 63, 64, 65, 66, 67, 68, 69, 70, 71, 72, 73, 74, 75, 76, 77, 78, 79, 80, 81]))
  .ret)))
  (.ghost (.kill [30]) .skip)))))))))))
  (.seq (.post (.reg [⟨(some 83), .op (.mv (.tmp 0)), none⟩,
    ⟨(some 84), .op (.faddr (.tmp 3) 1), none⟩,
    ⟨(some 85), .op (.load 1 false (.tmp 84)), none⟩,
    ⟨(some 86), .call (.func i_impl_bodyAt) [(.tmp 83), (.tmp 85)], none⟩,
    ⟨(some 82), .op (.mv (.tmp 86)), none⟩,
    ⟨(some 87), .op (.ext (.tmp 82) 0), none⟩,
    ⟨(some 88), .op (.ext (.tmp 82) 1), none⟩,
    ⟨(some 6), .op (.mv (.tmp 87)), none⟩,
    ⟨(some 7), .op (.mv (.tmp 88)), none⟩]) (.kill [82, 83, 84, 85, 86, 87, 88]))
  (.seq (.seq (.post (.reg [⟨(some 89), .op (.mv (.tmp 7)), none⟩,
    ⟨(some 90), .op (.bin .neq (.tmp 89) (.const (Value.int .i64 0))), none⟩]) (.kill [89]))
  (.cond (.tmp 90) (.ghost (.kill [0, 3, 6, 90]) (.seq (.post (.reg [⟨(some 91), .op (.mv (.tmp 7)), none⟩,
    ⟨(some 4), .op (.mv (.const (Value.string ⟨#[]⟩))), none⟩,
    ⟨(some 5), .op (.mv (.tmp 91)), none⟩]) (.kill [7, 91]))
  .ret))
  (.ghost (.kill [7, 90]) .skip)))
  (.seq (.reg [⟨(some 8), .op (.mv (.const (Value.string ⟨#[]⟩))), none⟩,
    ⟨(some 9), .op (.mv (.const (Value.string ⟨#[]⟩))), none⟩])
  (.seq (.seq (.post (.reg [⟨(some 92), .op (.faddr (.tmp 3) 0), none⟩,
    ⟨(some 93), .op (.load 1 false (.tmp 92)), none⟩,
    ⟨(some 94), .op (.bin .eql (.tmp 93) (.const (Value.int .i64 5))), none⟩]) (.kill [92, 93]))
  (.cond (.tmp 94) (.ghost (.kill [8, 9, 94]) (.post (.draw [⟨0, ⟨(some 95), .op (.faddr (.tmp 3) 3), none⟩, []⟩,
    ⟨1, ⟨(some 96), .op (.load 1 false (.tmp 95)), none⟩, []⟩,
    ⟨2, ⟨(some 97), .op (.slcStr (.tmp 96) none (some (.const (Value.int .i64 1)))), none⟩, []⟩,
    ⟨3, ⟨(some 98), .op (.faddr (.tmp 3) 3), none⟩, []⟩,
    ⟨4, ⟨(some 99), .op (.load 1 false (.tmp 98)), none⟩, []⟩,
    ⟨5, ⟨(some 100), .op (.slcStr (.tmp 99) (some (.const (Value.int .i64 1))) none), none⟩, []⟩,
    ⟨6, ⟨(some 8), .op (.mv (.tmp 97)), none⟩, []⟩,
    ⟨7, ⟨(some 9), .op (.mv (.tmp 100)), none⟩, []⟩]
    [0, 1, 3, 0, 8, 24, 7, 127]) (.kill [95, 96, 97, 98, 99, 100])))
  (.ghost (.kill [94]) .skip)))
  (.seq (.post (.draw [⟨0, ⟨(some 101), .op (.mv (.tmp 0)), none⟩, []⟩,
    ⟨1, ⟨(some 102), .op (.faddr (.tmp 3) 1), none⟩, []⟩,
    ⟨2, ⟨(some 103), .op (.load 1 false (.tmp 102)), none⟩, []⟩,
    ⟨3, ⟨(some 104), .op (.slcStr (.tmp 101) none (some (.tmp 103))), none⟩, []⟩,
    ⟨4, ⟨(some 105), .op (.mv (.tmp 8)), none⟩, []⟩,
    ⟨5, ⟨(some 106), .op (.bin .add (.tmp 104) (.tmp 105)), none⟩, []⟩,
    ⟨6, ⟨(some 107), .op (.mv (.tmp 0)), none⟩, []⟩,
    ⟨7, ⟨(some 108), .op (.faddr (.tmp 3) 1), none⟩, []⟩,
    ⟨8, ⟨(some 109), .op (.load 1 false (.tmp 108)), none⟩, []⟩,
    ⟨9, ⟨(some 110), .op (.bin .add (.tmp 109) (.const (Value.int .i64 1))), none⟩, []⟩,
    ⟨10, ⟨(some 111), .op (.mv (.tmp 6)), none⟩, []⟩,
    ⟨11, ⟨(some 112), .op (.slcStr (.tmp 107) (some (.tmp 110)) (some (.tmp 111))), none⟩, []⟩,
    ⟨12, ⟨(some 113), .op (.bin .add (.tmp 106) (.tmp 112)), none⟩, []⟩,
    ⟨13, ⟨(some 114), .op (.mv (.tmp 9)), none⟩, []⟩,
    ⟨14, ⟨(some 115), .op (.bin .add (.tmp 113) (.tmp 114)), none⟩, []⟩,
    ⟨15, ⟨(some 116), .op (.mv (.tmp 0)), none⟩, []⟩,
    ⟨16, ⟨(some 117), .op (.mv (.tmp 6)), none⟩, []⟩,
    ⟨17, ⟨(some 118), .op (.bin .add (.tmp 117) (.const (Value.int .i64 1))), none⟩, []⟩,
    ⟨18, ⟨(some 119), .op (.slcStr (.tmp 116) (some (.tmp 118)) none), none⟩, []⟩,
    ⟨19, ⟨(some 120), .op (.bin .add (.tmp 115) (.tmp 119)), none⟩, []⟩,
    ⟨20, ⟨(some 4), .op (.mv (.tmp 120)), none⟩, []⟩,
    ⟨21, ⟨(some 5), .op (.mv (.const (Value.int .i64 0))), none⟩, []⟩]
    [0, 0, 2, 7, 0, 31, 0, 0, 128, 384, 0, 1984, 4095, 0, 16383, 0, 0, 65536, 229376, 524287, 1048575, 2097151]) (.kill [0, 3, 6, 8, 9, 101, 102, 103, 104, 105, 106, 107, 108, 109, 110, 111, 112, 113, 114, 115, 116, 117, 118, 119, 120]))
  .ret)))))))
theorem cf_impl_editTree : chkFn Try.prog i_impl_editTree ac_impl_editTree [.tmp 4, .tmp 5] 121 = true := by decide +kernel
def fa_impl_editTree : FnA := ⟨ac_impl_editTree, [.tmp 4, .tmp 5], 121, false, true⟩

/-- The checked code of impl EditTree. -/
def ac_impl_EditTree : AC := (.seq (.post (.reg [⟨(some 3), .op (.box true (.tmp 1)), none⟩,
    ⟨(some 4), .op (.mv (.const (Value.string ⟨#[]⟩))), none⟩,
    ⟨(some 5), .op (.mv (.const (Value.int .i64 0))), none⟩]) (.kill [1, 4, 5]))
  (.seq (.seq (.post (.reg [⟨(some 6), .op (.mv (.tmp 0)), none⟩,
    ⟨(some 7), .call (.func i_impl_ValidWord) [(.tmp 6)], none⟩,
    ⟨(some 8), .op (.un .not (.tmp 7)), none⟩,
    ⟨(some 9), .op (.mv (.tmp 8)), none⟩,
    ⟨(some 10), .op (.load 4 true (.tmp 3)), some (9, false)⟩,
    ⟨(some 11), .call (.func i_impl_ValidTreeEdit) [(.tmp 10)], some (9, false)⟩,
    ⟨(some 12), .op (.un .not (.tmp 11)), some (9, false)⟩,
    ⟨(some 13), .op (.pick (.tmp 9) (.const (Value.bool true)) (.tmp 12)), none⟩]) (.kill [6, 7, 8, 9, 10, 11, 12]))
  (.cond (.tmp 13) (.ghost (.kill [0, 3, 13]) (.seq (.reg [⟨(some 4), .op (.mv (.const (Value.string ⟨#[]⟩))), none⟩,
    ⟨(some 5), .op (.mv (.const (Value.int .i64 1))), none⟩])
  .ret))
  (.ghost (.kill [13]) .skip)))
  (.seq (.post (.reg [⟨(some 14), .op (.mv (.tmp 0)), none⟩,
    ⟨(some 15), .op (.load 4 true (.tmp 3)), none⟩,
    ⟨(some 16), .call (.func i_impl_editTree) [(.tmp 14), (.tmp 15)], none⟩,
    ⟨(some 17), .op (.ext (.tmp 16) 0), none⟩,
    ⟨(some 18), .op (.ext (.tmp 16) 1), none⟩,
    ⟨(some 4), .op (.mv (.tmp 17)), none⟩,
    ⟨(some 5), .op (.mv (.tmp 18)), none⟩]) (.kill [0, 3, 14, 15, 16, 17, 18]))
  .ret)))
theorem cf_impl_EditTree : chkFn Try.prog i_impl_EditTree ac_impl_EditTree [.tmp 4, .tmp 5] 19 = true := by decide +kernel
def fa_impl_EditTree : FnA := ⟨ac_impl_EditTree, [.tmp 4, .tmp 5], 19, false, true⟩

/-- The checked code of laws FnExactEditTree. -/
def ac_laws_FnExactEditTree : AC := (.seq (.post (.reg [⟨(some 3), .op (.box true (.tmp 1)), none⟩,
    ⟨(some 4), .op (.mv (.const (Value.bool false))), none⟩]) (.kill [1, 4]))
  (.seq (.seq (.post (.reg [⟨(some 10), .op (.mv (.tmp 0)), none⟩,
    ⟨(some 11), .op (.len true (.tmp 10)), none⟩,
    ⟨(some 12), .op (.bin .gtr (.tmp 11) (.const (Value.int .i64 1048576))), none⟩]) (.kill [10, 11]))
  (.cond (.tmp 12) (.ghost (.kill [0, 3, 12]) (.seq (.reg [⟨(some 4), .op (.mv (.const (Value.bool true))), none⟩])
  .ret))
  (.ghost (.kill [12]) .skip)))
  (.seq (.reg [⟨(some 5), .op (.mv (.const (Value.int .i64 1048576))), none⟩])
  (.seq (.post (.reg [⟨(some 13), .op (.load 4 true (.tmp 3)), none⟩,
    ⟨(some 14), .op (.mv (.tmp 5)), none⟩,
    ⟨(some 15), .call (.func i_laws_szTreeEdit) [(.tmp 13), (.tmp 14)], none⟩,
    ⟨(some 5), .op (.mv (.tmp 15)), none⟩]) (.kill [13, 14, 15]))
  (.seq (.seq (.post (.reg [⟨(some 16), .op (.mv (.tmp 5)), none⟩,
    ⟨(some 17), .op (.bin .lss (.tmp 16) (.const (Value.int .i64 0))), none⟩]) (.kill [5, 16]))
  (.cond (.tmp 17) (.ghost (.kill [0, 3, 17]) (.seq (.reg [⟨(some 4), .op (.mv (.const (Value.bool true))), none⟩])
  .ret))
  (.ghost (.kill [17]) .skip)))
  (.seq (.post (.reg [⟨(some 19), .op (.mv (.tmp 0)), none⟩,
    ⟨(some 20), .op (.load 4 true (.tmp 3)), none⟩,
    ⟨(some 21), .call (.func i_laws_toTreeEdit) [(.tmp 20)], none⟩,
    ⟨(some 22), .call (.func i_spec_EditTree) [(.tmp 19), (.tmp 21)], none⟩,
    ⟨(some 18), .op (.mv (.tmp 22)), none⟩,
    ⟨(some 23), .op (.ext (.tmp 18) 0), none⟩,
    ⟨(some 24), .op (.ext (.tmp 18) 1), none⟩,
    ⟨(some 6), .op (.mv (.tmp 23)), none⟩,
    ⟨(some 7), .op (.mv (.tmp 24)), none⟩]) (.kill [18, 19, 20, 21, 22, 23, 24]))
  (.seq (.post (.reg [⟨(some 26), .op (.mv (.tmp 0)), none⟩,
    ⟨(some 27), .op (.load 4 true (.tmp 3)), none⟩,
    ⟨(some 28), .call (.func i_laws_toTreeEdit) [(.tmp 27)], none⟩,
    ⟨(some 29), .call (.func i_impl_EditTree) [(.tmp 26), (.tmp 28)], none⟩,
    ⟨(some 25), .op (.mv (.tmp 29)), none⟩,
    ⟨(some 30), .op (.ext (.tmp 25) 0), none⟩,
    ⟨(some 31), .op (.ext (.tmp 25) 1), none⟩,
    ⟨(some 8), .op (.mv (.tmp 30)), none⟩,
    ⟨(some 9), .op (.mv (.tmp 31)), none⟩]) (.kill [0, 3, 25, 26, 27, 28, 29, 30, 31]))
  (.seq (.seq (.post (.reg [⟨(some 32), .op (.mv (.tmp 8)), none⟩,
    ⟨(some 33), .op (.mv (.tmp 6)), none⟩,
    ⟨(some 34), .op (.bin .neq (.tmp 32) (.tmp 33)), none⟩,
    ⟨(some 35), .op (.mv (.tmp 34)), none⟩,
    ⟨(some 36), .op (.mv (.tmp 9)), some (35, false)⟩,
    ⟨(some 37), .op (.mv (.tmp 7)), some (35, false)⟩,
    ⟨(some 38), .op (.bin .neq (.tmp 36) (.tmp 37)), some (35, false)⟩,
    ⟨(some 39), .op (.pick (.tmp 35) (.const (Value.bool true)) (.tmp 38)), none⟩]) (.kill [6, 7, 8, 9, 32, 33, 34, 35, 36, 37, 38]))
  (.cond (.tmp 39) (.ghost (.kill [39]) (.seq (.reg [⟨(some 4), .op (.mv (.const (Value.bool false))), none⟩])
  .ret))
  (.ghost (.kill [39]) .skip)))
  (.seq (.reg [⟨(some 4), .op (.mv (.const (Value.bool true))), none⟩])
  .ret)))))))))
theorem cf_laws_FnExactEditTree : chkFn Try.prog i_laws_FnExactEditTree ac_laws_FnExactEditTree [.tmp 4] 40 = true := by decide +kernel
def fa_laws_FnExactEditTree : FnA := ⟨ac_laws_FnExactEditTree, [.tmp 4], 40, false, true⟩

end Go.Proofs.Ytpjadhjjeafffaa
