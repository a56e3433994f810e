/- The code of the functions that the law FnExactFixRewriter reaches, checked against the loaded program; printed by a program (gen.py). -/
import Derived.Test.YtpjadhjjeafffaaProg
import Derived.Test.YtpjadhjjeafffaaAw25
set_option linter.unusedVariables false
set_option maxRecDepth 100000
namespace Go.Proofs.Ytpjadhjjeafffaa.OfExactFixRewriter
open Aw

/-- The checked code of laws eqOutPush. -/
def ac200 : AC := (.seq (.reg [⟨(some 2), .op (.box true (.tmp 0)), none⟩,
    ⟨(some 3), .op (.box true (.tmp 1)), none⟩,
    ⟨(some 4), .op (.mv (.const (Value.bool false))), none⟩])
  (.seq (.seq (.reg [⟨(some 5), .op (.faddr (.tmp 2) 0), none⟩,
    ⟨(some 6), .op (.load 1 false (.tmp 5)), none⟩,
    ⟨(some 7), .op (.faddr (.tmp 3) 0), none⟩,
    ⟨(some 8), .op (.load 1 false (.tmp 7)), none⟩,
    ⟨(some 9), .op (.bin .neq (.tmp 6) (.tmp 8)), none⟩])
  (.cond (.tmp 9) (.seq (.reg [⟨(some 4), .op (.mv (.const (Value.bool false))), none⟩])
  .ret)
  .skip))
  (.seq (.seq (.reg [⟨(some 10), .op (.faddr (.tmp 2) 1), none⟩,
    ⟨(some 11), .op (.load 1 false (.tmp 10)), none⟩,
    ⟨(some 12), .op (.faddr (.tmp 3) 1), none⟩,
    ⟨(some 13), .op (.load 1 false (.tmp 12)), none⟩,
    ⟨(some 14), .op (.bin .neq (.tmp 11) (.tmp 13)), none⟩])
  (.cond (.tmp 14) (.seq (.reg [⟨(some 4), .op (.mv (.const (Value.bool false))), none⟩])
  .ret)
  .skip))
  (.seq (.seq (.reg [⟨(some 15), .op (.faddr (.tmp 2) 2), none⟩,
    ⟨(some 16), .op (.load 1 false (.tmp 15)), none⟩,
    ⟨(some 17), .op (.faddr (.tmp 3) 2), none⟩,
    ⟨(some 18), .op (.load 1 false (.tmp 17)), none⟩,
    ⟨(some 19), .op (.bin .neq (.tmp 16) (.tmp 18)), none⟩])
  (.cond (.tmp 19) (.seq (.reg [⟨(some 4), .op (.mv (.const (Value.bool false))), none⟩])
  .ret)
  .skip))
  (.seq (.reg [⟨(some 4), .op (.mv (.const (Value.bool true))), none⟩])
  .ret)))))
theorem cf200 : chkFn Try.prog 200 ac200 [.tmp 4] 20 = true := by decide +kernel

/-- The checked code of laws eqOutPushS. -/
def ac158 : AC := (.seq (.reg [⟨(some 4), .op (.mv (.const (Value.bool false))), none⟩])
  (.seq (.seq (.reg [⟨(some 6), .op (.mv (.tmp 0)), none⟩,
    ⟨(some 7), .op (.len false (.tmp 6)), none⟩,
    ⟨(some 8), .op (.mv (.tmp 1)), none⟩,
    ⟨(some 9), .op (.len false (.tmp 8)), none⟩,
    ⟨(some 10), .op (.bin .neq (.tmp 7) (.tmp 9)), none⟩])
  (.cond (.tmp 10) (.seq (.reg [⟨(some 4), .op (.mv (.const (Value.bool false))), none⟩])
  .ret)
  .skip))
  (.seq (.seq (.reg [⟨(some 5), .op (.mv (.const (Value.int .i64 0))), none⟩])
  (.block 0 (.loop (.seq (.seq (.reg [⟨(some 11), .op (.mv (.tmp 5)), none⟩,
    ⟨(some 12), .op (.mv (.tmp 0)), none⟩,
    ⟨(some 13), .op (.len false (.tmp 12)), none⟩,
    ⟨(some 14), .op (.bin .lss (.tmp 11) (.tmp 13)), none⟩])
  (.cond (.tmp 14) .skip
  (.exit 0)))
  (.seq (.block 1 (.seq (.draw [⟨0, ⟨(some 17), .op (.mv (.tmp 0)), none⟩, []⟩,
    ⟨1, ⟨(some 18), .op (.mv (.tmp 5)), none⟩, []⟩,
    ⟨2, ⟨(some 19), .op (.iaddrS (.tmp 17) (.tmp 18) 3), none⟩, []⟩,
    ⟨3, ⟨(some 20), .op (.load 3 true (.tmp 19)), none⟩, []⟩,
    ⟨4, ⟨(some 21), .op (.mv (.tmp 1)), none⟩, []⟩,
    ⟨5, ⟨(some 22), .op (.mv (.tmp 5)), none⟩, []⟩,
    ⟨6, ⟨(some 23), .op (.iaddrS (.tmp 21) (.tmp 22) 3), none⟩, []⟩,
    ⟨7, ⟨(some 24), .op (.load 3 true (.tmp 23)), none⟩, []⟩,
    ⟨8, ⟨(some 25), .call (.func 200) [(.tmp 20), (.tmp 24)], none⟩, []⟩,
    ⟨9, ⟨(some 26), .op (.un .not (.tmp 25)), none⟩, []⟩]
    [0, 0, 3, 7, 0, 0, 48, 112, 255, 511])
  (.cond (.tmp 26) (.seq (.reg [⟨(some 4), .op (.mv (.const (Value.bool false))), none⟩])
  .ret)
  .skip)))
  (.reg [⟨(some 15), .op (.mv (.tmp 5)), none⟩,
    ⟨(some 16), .op (.bin .add (.tmp 15) (.const (Value.int .i64 1))), none⟩,
    ⟨(some 5), .op (.mv (.tmp 16)), none⟩]))))))
  (.seq (.reg [⟨(some 4), .op (.mv (.const (Value.bool true))), none⟩])
  .ret))))
theorem cf158 : chkFn Try.prog 158 ac158 [.tmp 4] 27 = true := by decide +kernel

/-- The checked code of laws eqOutPushSS. -/
def ac81 : AC := (.seq (.reg [⟨(some 4), .op (.mv (.const (Value.bool false))), none⟩])
  (.seq (.seq (.reg [⟨(some 6), .op (.mv (.tmp 0)), none⟩,
    ⟨(some 7), .op (.len false (.tmp 6)), none⟩,
    ⟨(some 8), .op (.mv (.tmp 1)), none⟩,
    ⟨(some 9), .op (.len false (.tmp 8)), none⟩,
    ⟨(some 10), .op (.bin .neq (.tmp 7) (.tmp 9)), none⟩])
  (.cond (.tmp 10) (.seq (.reg [⟨(some 4), .op (.mv (.const (Value.bool false))), none⟩])
  .ret)
  .skip))
  (.seq (.seq (.reg [⟨(some 5), .op (.mv (.const (Value.int .i64 0))), none⟩])
  (.block 0 (.loop (.seq (.seq (.reg [⟨(some 11), .op (.mv (.tmp 5)), none⟩,
    ⟨(some 12), .op (.mv (.tmp 0)), none⟩,
    ⟨(some 13), .op (.len false (.tmp 12)), none⟩,
    ⟨(some 14), .op (.bin .lss (.tmp 11) (.tmp 13)), none⟩])
  (.cond (.tmp 14) .skip
  (.exit 0)))
  (.seq (.block 1 (.seq (.draw [⟨0, ⟨(some 17), .op (.mv (.tmp 0)), none⟩, []⟩,
    ⟨1, ⟨(some 18), .op (.mv (.tmp 5)), none⟩, []⟩,
    ⟨2, ⟨(some 19), .op (.iaddrS (.tmp 17) (.tmp 18) 1), none⟩, []⟩,
    ⟨3, ⟨(some 20), .op (.load 1 false (.tmp 19)), none⟩, []⟩,
    ⟨4, ⟨(some 21), .op (.mv (.tmp 1)), none⟩, []⟩,
    ⟨5, ⟨(some 22), .op (.mv (.tmp 5)), none⟩, []⟩,
    ⟨6, ⟨(some 23), .op (.iaddrS (.tmp 21) (.tmp 22) 1), none⟩, []⟩,
    ⟨7, ⟨(some 24), .op (.load 1 false (.tmp 23)), none⟩, []⟩,
    ⟨8, ⟨(some 25), .call (.func 158) [(.tmp 20), (.tmp 24)], none⟩, []⟩,
    ⟨9, ⟨(some 26), .op (.un .not (.tmp 25)), none⟩, []⟩]
    [0, 0, 3, 7, 0, 0, 48, 112, 255, 511])
  (.cond (.tmp 26) (.seq (.reg [⟨(some 4), .op (.mv (.const (Value.bool false))), none⟩])
  .ret)
  .skip)))
  (.reg [⟨(some 15), .op (.mv (.tmp 5)), none⟩,
    ⟨(some 16), .op (.bin .add (.tmp 15) (.const (Value.int .i64 1))), none⟩,
    ⟨(some 5), .op (.mv (.tmp 16)), none⟩]))))))
  (.seq (.reg [⟨(some 4), .op (.mv (.const (Value.bool true))), none⟩])
  .ret))))
theorem cf81 : chkFn Try.prog 81 ac81 [.tmp 4] 27 = true := by decide +kernel

/-- The checked code of laws eqOutMove. -/
def ac201 : AC := (.seq (.reg [⟨(some 2), .op (.box true (.tmp 0)), none⟩,
    ⟨(some 3), .op (.box true (.tmp 1)), none⟩,
    ⟨(some 4), .op (.mv (.const (Value.bool false))), none⟩])
  (.seq (.seq (.reg [⟨(some 5), .op (.faddr (.tmp 2) 0), none⟩,
    ⟨(some 6), .op (.load 1 false (.tmp 5)), none⟩,
    ⟨(some 7), .op (.faddr (.tmp 3) 0), none⟩,
    ⟨(some 8), .op (.load 1 false (.tmp 7)), none⟩,
    ⟨(some 9), .op (.bin .neq (.tmp 6) (.tmp 8)), none⟩])
  (.cond (.tmp 9) (.seq (.reg [⟨(some 4), .op (.mv (.const (Value.bool false))), none⟩])
  .ret)
  .skip))
  (.seq (.seq (.reg [⟨(some 10), .op (.faddr (.tmp 2) 1), none⟩,
    ⟨(some 11), .op (.load 1 false (.tmp 10)), none⟩,
    ⟨(some 12), .op (.faddr (.tmp 3) 1), none⟩,
    ⟨(some 13), .op (.load 1 false (.tmp 12)), none⟩,
    ⟨(some 14), .op (.bin .neq (.tmp 11) (.tmp 13)), none⟩])
  (.cond (.tmp 14) (.seq (.reg [⟨(some 4), .op (.mv (.const (Value.bool false))), none⟩])
  .ret)
  .skip))
  (.seq (.reg [⟨(some 4), .op (.mv (.const (Value.bool true))), none⟩])
  .ret))))
theorem cf201 : chkFn Try.prog 201 ac201 [.tmp 4] 15 = true := by decide +kernel

/-- The checked code of laws eqOutMoveS. -/
def ac159 : AC := (.seq (.reg [⟨(some 4), .op (.mv (.const (Value.bool false))), none⟩])
  (.seq (.seq (.reg [⟨(some 6), .op (.mv (.tmp 0)), none⟩,
    ⟨(some 7), .op (.len false (.tmp 6)), none⟩,
    ⟨(some 8), .op (.mv (.tmp 1)), none⟩,
    ⟨(some 9), .op (.len false (.tmp 8)), none⟩,
    ⟨(some 10), .op (.bin .neq (.tmp 7) (.tmp 9)), none⟩])
  (.cond (.tmp 10) (.seq (.reg [⟨(some 4), .op (.mv (.const (Value.bool false))), none⟩])
  .ret)
  .skip))
  (.seq (.seq (.reg [⟨(some 5), .op (.mv (.const (Value.int .i64 0))), none⟩])
  (.block 0 (.loop (.seq (.seq (.reg [⟨(some 11), .op (.mv (.tmp 5)), none⟩,
    ⟨(some 12), .op (.mv (.tmp 0)), none⟩,
    ⟨(some 13), .op (.len false (.tmp 12)), none⟩,
    ⟨(some 14), .op (.bin .lss (.tmp 11) (.tmp 13)), none⟩])
  (.cond (.tmp 14) .skip
  (.exit 0)))
  (.seq (.block 1 (.seq (.draw [⟨0, ⟨(some 17), .op (.mv (.tmp 0)), none⟩, []⟩,
    ⟨1, ⟨(some 18), .op (.mv (.tmp 5)), none⟩, []⟩,
    ⟨2, ⟨(some 19), .op (.iaddrS (.tmp 17) (.tmp 18) 2), none⟩, []⟩,
    ⟨3, ⟨(some 20), .op (.load 2 true (.tmp 19)), none⟩, []⟩,
    ⟨4, ⟨(some 21), .op (.mv (.tmp 1)), none⟩, []⟩,
    ⟨5, ⟨(some 22), .op (.mv (.tmp 5)), none⟩, []⟩,
    ⟨6, ⟨(some 23), .op (.iaddrS (.tmp 21) (.tmp 22) 2), none⟩, []⟩,
    ⟨7, ⟨(some 24), .op (.load 2 true (.tmp 23)), none⟩, []⟩,
    ⟨8, ⟨(some 25), .call (.func 201) [(.tmp 20), (.tmp 24)], none⟩, []⟩,
    ⟨9, ⟨(some 26), .op (.un .not (.tmp 25)), none⟩, []⟩]
    [0, 0, 3, 7, 0, 0, 48, 112, 255, 511])
  (.cond (.tmp 26) (.seq (.reg [⟨(some 4), .op (.mv (.const (Value.bool false))), none⟩])
  .ret)
  .skip)))
  (.reg [⟨(some 15), .op (.mv (.tmp 5)), none⟩,
    ⟨(some 16), .op (.bin .add (.tmp 15) (.const (Value.int .i64 1))), none⟩,
    ⟨(some 5), .op (.mv (.tmp 16)), none⟩]))))))
  (.seq (.reg [⟨(some 4), .op (.mv (.const (Value.bool true))), none⟩])
  .ret))))
theorem cf159 : chkFn Try.prog 159 ac159 [.tmp 4] 27 = true := by decide +kernel

/-- The checked code of laws eqOutMoveSS. -/
def ac83 : AC := (.seq (.reg [⟨(some 4), .op (.mv (.const (Value.bool false))), none⟩])
  (.seq (.seq (.reg [⟨(some 6), .op (.mv (.tmp 0)), none⟩,
    ⟨(some 7), .op (.len false (.tmp 6)), none⟩,
    ⟨(some 8), .op (.mv (.tmp 1)), none⟩,
    ⟨(some 9), .op (.len false (.tmp 8)), none⟩,
    ⟨(some 10), .op (.bin .neq (.tmp 7) (.tmp 9)), none⟩])
  (.cond (.tmp 10) (.seq (.reg [⟨(some 4), .op (.mv (.const (Value.bool false))), none⟩])
  .ret)
  .skip))
  (.seq (.seq (.reg [⟨(some 5), .op (.mv (.const (Value.int .i64 0))), none⟩])
  (.block 0 (.loop (.seq (.seq (.reg [⟨(some 11), .op (.mv (.tmp 5)), none⟩,
    ⟨(some 12), .op (.mv (.tmp 0)), none⟩,
    ⟨(some 13), .op (.len false (.tmp 12)), none⟩,
    ⟨(some 14), .op (.bin .lss (.tmp 11) (.tmp 13)), none⟩])
  (.cond (.tmp 14) .skip
  (.exit 0)))
  (.seq (.block 1 (.seq (.draw [⟨0, ⟨(some 17), .op (.mv (.tmp 0)), none⟩, []⟩,
    ⟨1, ⟨(some 18), .op (.mv (.tmp 5)), none⟩, []⟩,
    ⟨2, ⟨(some 19), .op (.iaddrS (.tmp 17) (.tmp 18) 1), none⟩, []⟩,
    ⟨3, ⟨(some 20), .op (.load 1 false (.tmp 19)), none⟩, []⟩,
    ⟨4, ⟨(some 21), .op (.mv (.tmp 1)), none⟩, []⟩,
    ⟨5, ⟨(some 22), .op (.mv (.tmp 5)), none⟩, []⟩,
    ⟨6, ⟨(some 23), .op (.iaddrS (.tmp 21) (.tmp 22) 1), none⟩, []⟩,
    ⟨7, ⟨(some 24), .op (.load 1 false (.tmp 23)), none⟩, []⟩,
    ⟨8, ⟨(some 25), .call (.func 159) [(.tmp 20), (.tmp 24)], none⟩, []⟩,
    ⟨9, ⟨(some 26), .op (.un .not (.tmp 25)), none⟩, []⟩]
    [0, 0, 3, 7, 0, 0, 48, 112, 255, 511])
  (.cond (.tmp 26) (.seq (.reg [⟨(some 4), .op (.mv (.const (Value.bool false))), none⟩])
  .ret)
  .skip)))
  (.reg [⟨(some 15), .op (.mv (.tmp 5)), none⟩,
    ⟨(some 16), .op (.bin .add (.tmp 15) (.const (Value.int .i64 1))), none⟩,
    ⟨(some 5), .op (.mv (.tmp 16)), none⟩]))))))
  (.seq (.reg [⟨(some 4), .op (.mv (.const (Value.bool true))), none⟩])
  .ret))))
theorem cf83 : chkFn Try.prog 83 ac83 [.tmp 4] 27 = true := by decide +kernel

/-- The checked code of laws eqOutMoveSSS. -/
def ac82 : AC := (.seq (.reg [⟨(some 4), .op (.mv (.const (Value.bool false))), none⟩])
  (.seq (.seq (.reg [⟨(some 6), .op (.mv (.tmp 0)), none⟩,
    ⟨(some 7), .op (.len false (.tmp 6)), none⟩,
    ⟨(some 8), .op (.mv (.tmp 1)), none⟩,
    ⟨(some 9), .op (.len false (.tmp 8)), none⟩,
    ⟨(some 10), .op (.bin .neq (.tmp 7) (.tmp 9)), none⟩])
  (.cond (.tmp 10) (.seq (.reg [⟨(some 4), .op (.mv (.const (Value.bool false))), none⟩])
  .ret)
  .skip))
  (.seq (.seq (.reg [⟨(some 5), .op (.mv (.const (Value.int .i64 0))), none⟩])
  (.block 0 (.loop (.seq (.seq (.reg [⟨(some 11), .op (.mv (.tmp 5)), none⟩,
    ⟨(some 12), .op (.mv (.tmp 0)), none⟩,
    ⟨(some 13), .op (.len false (.tmp 12)), none⟩,
    ⟨(some 14), .op (.bin .lss (.tmp 11) (.tmp 13)), none⟩])
  (.cond (.tmp 14) .skip
  (.exit 0)))
  (.seq (.block 1 (.seq (.draw [⟨0, ⟨(some 17), .op (.mv (.tmp 0)), none⟩, []⟩,
    ⟨1, ⟨(some 18), .op (.mv (.tmp 5)), none⟩, []⟩,
    ⟨2, ⟨(some 19), .op (.iaddrS (.tmp 17) (.tmp 18) 1), none⟩, []⟩,
    ⟨3, ⟨(some 20), .op (.load 1 false (.tmp 19)), none⟩, []⟩,
    ⟨4, ⟨(some 21), .op (.mv (.tmp 1)), none⟩, []⟩,
    ⟨5, ⟨(some 22), .op (.mv (.tmp 5)), none⟩, []⟩,
    ⟨6, ⟨(some 23), .op (.iaddrS (.tmp 21) (.tmp 22) 1), none⟩, []⟩,
    ⟨7, ⟨(some 24), .op (.load 1 false (.tmp 23)), none⟩, []⟩,
    ⟨8, ⟨(some 25), .call (.func 83) [(.tmp 20), (.tmp 24)], none⟩, []⟩,
    ⟨9, ⟨(some 26), .op (.un .not (.tmp 25)), none⟩, []⟩]
    [0, 0, 3, 7, 0, 0, 48, 112, 255, 511])
  (.cond (.tmp 26) (.seq (.reg [⟨(some 4), .op (.mv (.const (Value.bool false))), none⟩])
  .ret)
  .skip)))
  (.reg [⟨(some 15), .op (.mv (.tmp 5)), none⟩,
    ⟨(some 16), .op (.bin .add (.tmp 15) (.const (Value.int .i64 1))), none⟩,
    ⟨(some 5), .op (.mv (.tmp 16)), none⟩]))))))
  (.seq (.reg [⟨(some 4), .op (.mv (.const (Value.bool true))), none⟩])
  .ret))))
theorem cf82 : chkFn Try.prog 82 ac82 [.tmp 4] 27 = true := by decide +kernel

/-- The checked code of laws eqRewriter. -/
def ac28 : AC := (.seq (.reg [⟨(some 2), .op (.box true (.tmp 0)), none⟩,
    ⟨(some 3), .op (.box true (.tmp 1)), none⟩,
    ⟨(some 4), .op (.mv (.const (Value.bool false))), none⟩])
  (.seq (.seq (.reg [⟨(some 5), .op (.faddr (.tmp 2) 0), none⟩,
    ⟨(some 6), .op (.load 1 false (.tmp 5)), none⟩,
    ⟨(some 7), .op (.faddr (.tmp 3) 0), none⟩,
    ⟨(some 8), .op (.load 1 false (.tmp 7)), none⟩,
    ⟨(some 9), .op (.bin .neq (.tmp 6) (.tmp 8)), none⟩])
  (.cond (.tmp 9) (.seq (.reg [⟨(some 4), .op (.mv (.const (Value.bool false))), none⟩])
  .ret)
  .skip))
  (.seq (.seq (.reg [⟨(some 10), .op (.faddr (.tmp 2) 1), none⟩,
    ⟨(some 11), .op (.load 1 false (.tmp 10)), none⟩,
    ⟨(some 12), .op (.faddr (.tmp 3) 1), none⟩,
    ⟨(some 13), .op (.load 1 false (.tmp 12)), none⟩,
    ⟨(some 14), .op (.bin .neq (.tmp 11) (.tmp 13)), none⟩])
  (.cond (.tmp 14) (.seq (.reg [⟨(some 4), .op (.mv (.const (Value.bool false))), none⟩])
  .ret)
  .skip))
  (.seq (.seq (.reg [⟨(some 15), .op (.faddr (.tmp 2) 2), none⟩,
    ⟨(some 16), .op (.load 1 false (.tmp 15)), none⟩,
    ⟨(some 17), .op (.faddr (.tmp 3) 2), none⟩,
    ⟨(some 18), .op (.load 1 false (.tmp 17)), none⟩,
    ⟨(some 19), .call (.func 81) [(.tmp 16), (.tmp 18)], none⟩,
    ⟨(some 20), .op (.un .not (.tmp 19)), none⟩])
  (.cond (.tmp 20) (.seq (.reg [⟨(some 4), .op (.mv (.const (Value.bool false))), none⟩])
  .ret)
  .skip))
  (.seq (.seq (.reg [⟨(some 21), .op (.faddr (.tmp 2) 3), none⟩,
    ⟨(some 22), .op (.load 1 false (.tmp 21)), none⟩,
    ⟨(some 23), .op (.faddr (.tmp 3) 3), none⟩,
    ⟨(some 24), .op (.load 1 false (.tmp 23)), none⟩,
    ⟨(some 25), .call (.func 82) [(.tmp 22), (.tmp 24)], none⟩,
    ⟨(some 26), .op (.un .not (.tmp 25)), none⟩])
  (.cond (.tmp 26) (.seq (.reg [⟨(some 4), .op (.mv (.const (Value.bool false))), none⟩])
  .ret)
  .skip))
  (.seq (.seq (.reg [⟨(some 27), .op (.faddr (.tmp 2) 4), none⟩,
    ⟨(some 28), .op (.load 1 false (.tmp 27)), none⟩,
    ⟨(some 29), .op (.faddr (.tmp 3) 4), none⟩,
    ⟨(some 30), .op (.load 1 false (.tmp 29)), none⟩,
    ⟨(some 31), .call (.func 83) [(.tmp 28), (.tmp 30)], none⟩,
    ⟨(some 32), .op (.un .not (.tmp 31)), none⟩])
  (.cond (.tmp 32) (.seq (.reg [⟨(some 4), .op (.mv (.const (Value.bool false))), none⟩])
  .ret)
  .skip))
  (.seq (.reg [⟨(some 4), .op (.mv (.const (Value.bool true))), none⟩])
  .ret)))))))
theorem cf28 : chkFn Try.prog 28 ac28 [.tmp 4] 33 = true := by decide +kernel

/-- The checked code of laws markText. -/
def ac202 : AC := (.seq (.reg [⟨(some 2), .op (.mv (.const (Value.string ⟨#[]⟩))), none⟩])
  (.seq (.seq (.reg [⟨(some 4), .op (.mv (.tmp 0)), none⟩,
    ⟨(some 5), .op (.bin .leq (.tmp 4) (.const (Value.int .i64 0))), none⟩])
  (.cond (.tmp 5) (.seq (.reg [⟨(some 2), .op (.mv (.const (Value.string ⟨#[109, 48]⟩))), none⟩])
  .ret)
  .skip))
  (.seq (.reg [⟨(some 3), .op (.mv (.const (Value.string ⟨#[]⟩))), none⟩])
  (.seq (.block 0 (.loop (.seq (.seq (.reg [⟨(some 6), .op (.mv (.tmp 0)), none⟩,
    ⟨(some 7), .op (.bin .gtr (.tmp 6) (.const (Value.int .i64 0))), none⟩])
  (.cond (.tmp 7) .skip
  (.exit 0)))
  (.block 1 (.seq (.reg [⟨(some 8), .op (.mv (.tmp 0)), none⟩,
    ⟨(some 9), .op (.bin .rem (.tmp 8) (.const (Value.int .i64 10))), none⟩,
    ⟨(some 10), .op (.bin .add (.const (Value.int .i64 48)) (.tmp 9)), none⟩,
    ⟨(some 11), .op (.conv .u8 (.tmp 10)), none⟩,
    ⟨(some 12), .op (.lits false 1 1 (Value.int .u8 0) [(0, (.tmp 11))]), none⟩,
    ⟨(some 13), .op (.b2s (.tmp 12)), none⟩,
    ⟨(some 14), .op (.mv (.tmp 3)), none⟩,
    ⟨(some 15), .op (.bin .add (.tmp 13) (.tmp 14)), none⟩,
    ⟨(some 3), .op (.mv (.tmp 15)), none⟩])
  (.reg [⟨(some 16), .op (.mv (.tmp 0)), none⟩,
    ⟨(some 17), .op (.bin .quo (.tmp 16) (.const (Value.int .i64 10))), none⟩,
    ⟨(some 0), .op (.mv (.tmp 17)), none⟩]))))))
  (.seq (.reg [⟨(some 18), .op (.mv (.tmp 3)), none⟩,
    ⟨(some 19), .op (.bin .add (.const (Value.string ⟨#[109]⟩)) (.tmp 18)), none⟩,
    ⟨(some 2), .op (.mv (.tmp 19)), none⟩])
  .ret)))))
theorem cf202 : chkFn Try.prog 202 ac202 [.tmp 2] 20 = true := by decide +kernel

/-- The checked code of laws markOutPushS. -/
def ac160 : AC := (.seq (.reg [⟨(some 4), .op (.mv (.const (Value.int .i64 0))), none⟩])
  (.seq (.seq (.reg [⟨(some 5), .op (.mv (.const (Value.int .i64 0))), none⟩])
  (.block 0 (.loop (.seq (.seq (.reg [⟨(some 6), .op (.mv (.tmp 5)), none⟩,
    ⟨(some 7), .op (.mv (.tmp 0)), none⟩,
    ⟨(some 8), .op (.len false (.tmp 7)), none⟩,
    ⟨(some 9), .op (.bin .lss (.tmp 6) (.tmp 8)), none⟩])
  (.cond (.tmp 9) .skip
  (.exit 0)))
  (.seq (.block 1 (.seq (.reg [⟨(some 12), .op (.mv (.tmp 0)), none⟩,
    ⟨(some 13), .op (.mv (.tmp 5)), none⟩,
    ⟨(some 14), .op (.mv (.tmp 1)), none⟩,
    ⟨(some 15), .op (.iaddrS (.tmp 12) (.tmp 13) 3), none⟩,
    ⟨(some 16), .op (.faddr (.tmp 15) 0), none⟩,
    ⟨none, .op (.store 1 (.tmp 16) (.tmp 14)), none⟩])
  (.seq (.reg [⟨(some 17), .op (.mv (.tmp 1)), none⟩,
    ⟨(some 18), .op (.bin .add (.tmp 17) (.const (Value.int .i64 1))), none⟩,
    ⟨(some 1), .op (.mv (.tmp 18)), none⟩])
  (.seq (.reg [⟨(some 19), .op (.mv (.tmp 0)), none⟩,
    ⟨(some 20), .op (.mv (.tmp 5)), none⟩,
    ⟨(some 21), .op (.mv (.tmp 1)), none⟩,
    ⟨(some 22), .op (.iaddrS (.tmp 19) (.tmp 20) 3), none⟩,
    ⟨(some 23), .op (.faddr (.tmp 22) 1), none⟩,
    ⟨none, .op (.store 1 (.tmp 23) (.tmp 21)), none⟩])
  (.seq (.reg [⟨(some 24), .op (.mv (.tmp 1)), none⟩,
    ⟨(some 25), .op (.bin .add (.tmp 24) (.const (Value.int .i64 1))), none⟩,
    ⟨(some 1), .op (.mv (.tmp 25)), none⟩])
  (.seq (.reg [⟨(some 26), .op (.mv (.tmp 0)), none⟩,
    ⟨(some 27), .op (.mv (.tmp 5)), none⟩,
    ⟨(some 28), .op (.mv (.tmp 1)), none⟩,
    ⟨(some 29), .call (.func 202) [(.tmp 28)], none⟩,
    ⟨(some 30), .op (.iaddrS (.tmp 26) (.tmp 27) 3), none⟩,
    ⟨(some 31), .op (.faddr (.tmp 30) 2), none⟩,
    ⟨none, .op (.store 1 (.tmp 31) (.tmp 29)), none⟩])
  (.reg [⟨(some 32), .op (.mv (.tmp 1)), none⟩,
    ⟨(some 33), .op (.bin .add (.tmp 32) (.const (Value.int .i64 1))), none⟩,
    ⟨(some 1), .op (.mv (.tmp 33)), none⟩])))))))
  (.reg [⟨(some 10), .op (.mv (.tmp 5)), none⟩,
    ⟨(some 11), .op (.bin .add (.tmp 10) (.const (Value.int .i64 1))), none⟩,
    ⟨(some 5), .op (.mv (.tmp 11)), none⟩]))))))
  (.seq (.reg [⟨(some 34), .op (.mv (.tmp 1)), none⟩,
    ⟨(some 4), .op (.mv (.tmp 34)), none⟩])
  .ret)))
theorem cf160 : chkFn Try.prog 160 ac160 [.tmp 4] 35 = true := by decide +kernel

/-- The checked code of laws markOutPushSS. -/
def ac84 : AC := (.seq (.reg [⟨(some 4), .op (.mv (.const (Value.int .i64 0))), none⟩])
  (.seq (.seq (.reg [⟨(some 5), .op (.mv (.const (Value.int .i64 0))), none⟩])
  (.block 0 (.loop (.seq (.seq (.reg [⟨(some 6), .op (.mv (.tmp 5)), none⟩,
    ⟨(some 7), .op (.mv (.tmp 0)), none⟩,
    ⟨(some 8), .op (.len false (.tmp 7)), none⟩,
    ⟨(some 9), .op (.bin .lss (.tmp 6) (.tmp 8)), none⟩])
  (.cond (.tmp 9) .skip
  (.exit 0)))
  (.seq (.block 1 (.reg [⟨(some 12), .op (.mv (.tmp 0)), none⟩,
    ⟨(some 13), .op (.mv (.tmp 5)), none⟩,
    ⟨(some 14), .op (.iaddrS (.tmp 12) (.tmp 13) 1), none⟩,
    ⟨(some 15), .op (.load 1 false (.tmp 14)), none⟩,
    ⟨(some 16), .op (.mv (.tmp 1)), none⟩,
    ⟨(some 17), .call (.func 160) [(.tmp 15), (.tmp 16)], none⟩,
    ⟨(some 1), .op (.mv (.tmp 17)), none⟩]))
  (.reg [⟨(some 10), .op (.mv (.tmp 5)), none⟩,
    ⟨(some 11), .op (.bin .add (.tmp 10) (.const (Value.int .i64 1))), none⟩,
    ⟨(some 5), .op (.mv (.tmp 11)), none⟩]))))))
  (.seq (.reg [⟨(some 18), .op (.mv (.tmp 1)), none⟩,
    ⟨(some 4), .op (.mv (.tmp 18)), none⟩])
  .ret)))
theorem cf84 : chkFn Try.prog 84 ac84 [.tmp 4] 19 = true := by decide +kernel

/-- The checked code of laws markOutMoveS. -/
def ac161 : AC := (.seq (.reg [⟨(some 4), .op (.mv (.const (Value.int .i64 0))), none⟩])
  (.seq (.seq (.reg [⟨(some 5), .op (.mv (.const (Value.int .i64 0))), none⟩])
  (.block 0 (.loop (.seq (.seq (.reg [⟨(some 6), .op (.mv (.tmp 5)), none⟩,
    ⟨(some 7), .op (.mv (.tmp 0)), none⟩,
    ⟨(some 8), .op (.len false (.tmp 7)), none⟩,
    ⟨(some 9), .op (.bin .lss (.tmp 6) (.tmp 8)), none⟩])
  (.cond (.tmp 9) .skip
  (.exit 0)))
  (.seq (.block 1 (.seq (.reg [⟨(some 12), .op (.mv (.tmp 0)), none⟩,
    ⟨(some 13), .op (.mv (.tmp 5)), none⟩,
    ⟨(some 14), .op (.mv (.tmp 1)), none⟩,
    ⟨(some 15), .op (.iaddrS (.tmp 12) (.tmp 13) 2), none⟩,
    ⟨(some 16), .op (.faddr (.tmp 15) 0), none⟩,
    ⟨none, .op (.store 1 (.tmp 16) (.tmp 14)), none⟩])
  (.seq (.reg [⟨(some 17), .op (.mv (.tmp 1)), none⟩,
    ⟨(some 18), .op (.bin .add (.tmp 17) (.const (Value.int .i64 1))), none⟩,
    ⟨(some 1), .op (.mv (.tmp 18)), none⟩])
  (.seq (.reg [⟨(some 19), .op (.mv (.tmp 0)), none⟩,
    ⟨(some 20), .op (.mv (.tmp 5)), none⟩,
    ⟨(some 21), .op (.mv (.tmp 1)), none⟩,
    ⟨(some 22), .call (.func 202) [(.tmp 21)], none⟩,
    ⟨(some 23), .op (.iaddrS (.tmp 19) (.tmp 20) 2), none⟩,
    ⟨(some 24), .op (.faddr (.tmp 23) 1), none⟩,
    ⟨none, .op (.store 1 (.tmp 24) (.tmp 22)), none⟩])
  (.reg [⟨(some 25), .op (.mv (.tmp 1)), none⟩,
    ⟨(some 26), .op (.bin .add (.tmp 25) (.const (Value.int .i64 1))), none⟩,
    ⟨(some 1), .op (.mv (.tmp 26)), none⟩])))))
  (.reg [⟨(some 10), .op (.mv (.tmp 5)), none⟩,
    ⟨(some 11), .op (.bin .add (.tmp 10) (.const (Value.int .i64 1))), none⟩,
    ⟨(some 5), .op (.mv (.tmp 11)), none⟩]))))))
  (.seq (.reg [⟨(some 27), .op (.mv (.tmp 1)), none⟩,
    ⟨(some 4), .op (.mv (.tmp 27)), none⟩])
  .ret)))
theorem cf161 : chkFn Try.prog 161 ac161 [.tmp 4] 28 = true := by decide +kernel

/-- The checked code of laws markOutMoveSS. -/
def ac86 : AC := (.seq (.reg [⟨(some 4), .op (.mv (.const (Value.int .i64 0))), none⟩])
  (.seq (.seq (.reg [⟨(some 5), .op (.mv (.const (Value.int .i64 0))), none⟩])
  (.block 0 (.loop (.seq (.seq (.reg [⟨(some 6), .op (.mv (.tmp 5)), none⟩,
    ⟨(some 7), .op (.mv (.tmp 0)), none⟩,
    ⟨(some 8), .op (.len false (.tmp 7)), none⟩,
    ⟨(some 9), .op (.bin .lss (.tmp 6) (.tmp 8)), none⟩])
  (.cond (.tmp 9) .skip
  (.exit 0)))
  (.seq (.block 1 (.reg [⟨(some 12), .op (.mv (.tmp 0)), none⟩,
    ⟨(some 13), .op (.mv (.tmp 5)), none⟩,
    ⟨(some 14), .op (.iaddrS (.tmp 12) (.tmp 13) 1), none⟩,
    ⟨(some 15), .op (.load 1 false (.tmp 14)), none⟩,
    ⟨(some 16), .op (.mv (.tmp 1)), none⟩,
    ⟨(some 17), .call (.func 161) [(.tmp 15), (.tmp 16)], none⟩,
    ⟨(some 1), .op (.mv (.tmp 17)), none⟩]))
  (.reg [⟨(some 10), .op (.mv (.tmp 5)), none⟩,
    ⟨(some 11), .op (.bin .add (.tmp 10) (.const (Value.int .i64 1))), none⟩,
    ⟨(some 5), .op (.mv (.tmp 11)), none⟩]))))))
  (.seq (.reg [⟨(some 18), .op (.mv (.tmp 1)), none⟩,
    ⟨(some 4), .op (.mv (.tmp 18)), none⟩])
  .ret)))
theorem cf86 : chkFn Try.prog 86 ac86 [.tmp 4] 19 = true := by decide +kernel

/-- The checked code of laws markOutMoveSSS. -/
def ac85 : AC := (.seq (.reg [⟨(some 4), .op (.mv (.const (Value.int .i64 0))), none⟩])
  (.seq (.seq (.reg [⟨(some 5), .op (.mv (.const (Value.int .i64 0))), none⟩])
  (.block 0 (.loop (.seq (.seq (.reg [⟨(some 6), .op (.mv (.tmp 5)), none⟩,
    ⟨(some 7), .op (.mv (.tmp 0)), none⟩,
    ⟨(some 8), .op (.len false (.tmp 7)), none⟩,
    ⟨(some 9), .op (.bin .lss (.tmp 6) (.tmp 8)), none⟩])
  (.cond (.tmp 9) .skip
  (.exit 0)))
  (.seq (.block 1 (.reg [⟨(some 12), .op (.mv (.tmp 0)), none⟩,
    ⟨(some 13), .op (.mv (.tmp 5)), none⟩,
    ⟨(some 14), .op (.iaddrS (.tmp 12) (.tmp 13) 1), none⟩,
    ⟨(some 15), .op (.load 1 false (.tmp 14)), none⟩,
    ⟨(some 16), .op (.mv (.tmp 1)), none⟩,
    ⟨(some 17), .call (.func 86) [(.tmp 15), (.tmp 16)], none⟩,
    ⟨(some 1), .op (.mv (.tmp 17)), none⟩]))
  (.reg [⟨(some 10), .op (.mv (.tmp 5)), none⟩,
    ⟨(some 11), .op (.bin .add (.tmp 10) (.const (Value.int .i64 1))), none⟩,
    ⟨(some 5), .op (.mv (.tmp 11)), none⟩]))))))
  (.seq (.reg [⟨(some 18), .op (.mv (.tmp 1)), none⟩,
    ⟨(some 4), .op (.mv (.tmp 18)), none⟩])
  .ret)))
theorem cf85 : chkFn Try.prog 85 ac85 [.tmp 4] 19 = true := by decide +kernel

/-- The checked code of laws markRewriter. -/
def ac29 : AC := (.seq (.reg [⟨(some 2), .op (.box false (.tmp 0)), none⟩,
    ⟨(some 4), .op (.mv (.const (Value.int .i64 0))), none⟩])
  (.seq (.reg [⟨(some 5), .op (.faddr (.tmp 2) 2), none⟩,
    ⟨(some 6), .op (.load 1 false (.tmp 5)), none⟩,
    ⟨(some 7), .op (.mv (.tmp 1)), none⟩,
    ⟨(some 8), .call (.func 84) [(.tmp 6), (.tmp 7)], none⟩,
    ⟨(some 1), .op (.mv (.tmp 8)), none⟩])
  (.seq (.reg [⟨(some 9), .op (.faddr (.tmp 2) 3), none⟩,
    ⟨(some 10), .op (.load 1 false (.tmp 9)), none⟩,
    ⟨(some 11), .op (.mv (.tmp 1)), none⟩,
    ⟨(some 12), .call (.func 85) [(.tmp 10), (.tmp 11)], none⟩,
    ⟨(some 1), .op (.mv (.tmp 12)), none⟩])
  (.seq (.reg [⟨(some 13), .op (.faddr (.tmp 2) 4), none⟩,
    ⟨(some 14), .op (.load 1 false (.tmp 13)), none⟩,
    ⟨(some 15), .op (.mv (.tmp 1)), none⟩,
    ⟨(some 16), .call (.func 86) [(.tmp 14), (.tmp 15)], none⟩,
    ⟨(some 1), .op (.mv (.tmp 16)), none⟩])
  (.seq (.reg [⟨(some 17), .op (.mv (.tmp 1)), none⟩,
    ⟨(some 4), .op (.mv (.tmp 17)), none⟩])
  .ret)))))
theorem cf29 : chkFn Try.prog 29 ac29 [.tmp 4] 18 = true := by decide +kernel

/-- The checked code of laws heldOutPushS. -/
def ac162 : AC := (.seq (.reg [⟨(some 4), .op (.mv (.const (Value.int .i64 0))), none⟩])
  (.seq (.seq (.reg [⟨(some 5), .op (.mv (.const (Value.int .i64 0))), none⟩])
  (.block 0 (.loop (.seq (.seq (.reg [⟨(some 6), .op (.mv (.tmp 5)), none⟩,
    ⟨(some 7), .op (.mv (.tmp 0)), none⟩,
    ⟨(some 8), .op (.len false (.tmp 7)), none⟩,
    ⟨(some 9), .op (.bin .lss (.tmp 6) (.tmp 8)), none⟩])
  (.cond (.tmp 9) .skip
  (.exit 0)))
  (.seq (.block 1 (.seq (.seq (.reg [⟨(some 12), .op (.mv (.tmp 0)), none⟩,
    ⟨(some 13), .op (.mv (.tmp 5)), none⟩,
    ⟨(some 14), .op (.iaddrS (.tmp 12) (.tmp 13) 3), none⟩,
    ⟨(some 15), .op (.faddr (.tmp 14) 0), none⟩,
    ⟨(some 16), .op (.load 1 false (.tmp 15)), none⟩,
    ⟨(some 17), .op (.mv (.tmp 1)), none⟩,
    ⟨(some 18), .op (.bin .neq (.tmp 16) (.tmp 17)), none⟩])
  (.cond (.tmp 18) (.seq (.reg [⟨(some 4), .op (.mv (.const (Value.int .i64 (-1)))), none⟩])
  .ret)
  .skip))
  (.seq (.reg [⟨(some 19), .op (.mv (.tmp 1)), none⟩,
    ⟨(some 20), .op (.bin .add (.tmp 19) (.const (Value.int .i64 1))), none⟩,
    ⟨(some 1), .op (.mv (.tmp 20)), none⟩])
  (.seq (.seq (.reg [⟨(some 21), .op (.mv (.tmp 0)), none⟩,
    ⟨(some 22), .op (.mv (.tmp 5)), none⟩,
    ⟨(some 23), .op (.iaddrS (.tmp 21) (.tmp 22) 3), none⟩,
    ⟨(some 24), .op (.faddr (.tmp 23) 1), none⟩,
    ⟨(some 25), .op (.load 1 false (.tmp 24)), none⟩,
    ⟨(some 26), .op (.mv (.tmp 1)), none⟩,
    ⟨(some 27), .op (.bin .neq (.tmp 25) (.tmp 26)), none⟩])
  (.cond (.tmp 27) (.seq (.reg [⟨(some 4), .op (.mv (.const (Value.int .i64 (-1)))), none⟩])
  .ret)
  .skip))
  (.seq (.reg [⟨(some 28), .op (.mv (.tmp 1)), none⟩,
    ⟨(some 29), .op (.bin .add (.tmp 28) (.const (Value.int .i64 1))), none⟩,
    ⟨(some 1), .op (.mv (.tmp 29)), none⟩])
  (.seq (.seq (.draw [⟨0, ⟨(some 30), .op (.mv (.tmp 0)), none⟩, []⟩,
    ⟨1, ⟨(some 31), .op (.mv (.tmp 5)), none⟩, []⟩,
    ⟨2, ⟨(some 32), .op (.iaddrS (.tmp 30) (.tmp 31) 3), none⟩, []⟩,
    ⟨3, ⟨(some 33), .op (.faddr (.tmp 32) 2), none⟩, []⟩,
    ⟨4, ⟨(some 34), .op (.load 1 false (.tmp 33)), none⟩, []⟩,
    ⟨5, ⟨(some 35), .op (.mv (.tmp 1)), none⟩, []⟩,
    ⟨6, ⟨(some 36), .call (.func 202) [(.tmp 35)], none⟩, [2, 4]⟩,
    ⟨7, ⟨(some 37), .op (.bin .neq (.tmp 34) (.tmp 36)), none⟩, []⟩]
    [0, 0, 3, 7, 15, 0, 32, 127])
  (.cond (.tmp 37) (.seq (.reg [⟨(some 4), .op (.mv (.const (Value.int .i64 (-1)))), none⟩])
  .ret)
  .skip))
  (.reg [⟨(some 38), .op (.mv (.tmp 1)), none⟩,
    ⟨(some 39), .op (.bin .add (.tmp 38) (.const (Value.int .i64 1))), none⟩,
    ⟨(some 1), .op (.mv (.tmp 39)), none⟩])))))))
  (.reg [⟨(some 10), .op (.mv (.tmp 5)), none⟩,
    ⟨(some 11), .op (.bin .add (.tmp 10) (.const (Value.int .i64 1))), none⟩,
    ⟨(some 5), .op (.mv (.tmp 11)), none⟩]))))))
  (.seq (.reg [⟨(some 40), .op (.mv (.tmp 1)), none⟩,
    ⟨(some 4), .op (.mv (.tmp 40)), none⟩])
  .ret)))
theorem cf162 : chkFn Try.prog 162 ac162 [.tmp 4] 41 = true := by decide +kernel

/-- The checked code of laws heldOutPushSS. -/
def ac87 : AC := (.seq (.reg [⟨(some 4), .op (.mv (.const (Value.int .i64 0))), none⟩])
  (.seq (.seq (.reg [⟨(some 5), .op (.mv (.const (Value.int .i64 0))), none⟩])
  (.block 0 (.loop (.seq (.seq (.reg [⟨(some 6), .op (.mv (.tmp 5)), none⟩,
    ⟨(some 7), .op (.mv (.tmp 0)), none⟩,
    ⟨(some 8), .op (.len false (.tmp 7)), none⟩,
    ⟨(some 9), .op (.bin .lss (.tmp 6) (.tmp 8)), none⟩])
  (.cond (.tmp 9) .skip
  (.exit 0)))
  (.seq (.block 1 (.seq (.reg [⟨(some 12), .op (.mv (.tmp 0)), none⟩,
    ⟨(some 13), .op (.mv (.tmp 5)), none⟩,
    ⟨(some 14), .op (.iaddrS (.tmp 12) (.tmp 13) 1), none⟩,
    ⟨(some 15), .op (.load 1 false (.tmp 14)), none⟩,
    ⟨(some 16), .op (.mv (.tmp 1)), none⟩,
    ⟨(some 17), .call (.func 162) [(.tmp 15), (.tmp 16)], none⟩,
    ⟨(some 1), .op (.mv (.tmp 17)), none⟩])
  (.seq (.reg [⟨(some 18), .op (.mv (.tmp 1)), none⟩,
    ⟨(some 19), .op (.bin .lss (.tmp 18) (.const (Value.int .i64 0))), none⟩])
  (.cond (.tmp 19) (.seq (.reg [⟨(some 4), .op (.mv (.const (Value.int .i64 (-1)))), none⟩])
  .ret)
  .skip))))
  (.reg [⟨(some 10), .op (.mv (.tmp 5)), none⟩,
    ⟨(some 11), .op (.bin .add (.tmp 10) (.const (Value.int .i64 1))), none⟩,
    ⟨(some 5), .op (.mv (.tmp 11)), none⟩]))))))
  (.seq (.reg [⟨(some 20), .op (.mv (.tmp 1)), none⟩,
    ⟨(some 4), .op (.mv (.tmp 20)), none⟩])
  .ret)))
theorem cf87 : chkFn Try.prog 87 ac87 [.tmp 4] 21 = true := by decide +kernel

/-- The checked code of laws heldOutMoveS. -/
def ac163 : AC := (.seq (.reg [⟨(some 4), .op (.mv (.const (Value.int .i64 0))), none⟩])
  (.seq (.seq (.reg [⟨(some 5), .op (.mv (.const (Value.int .i64 0))), none⟩])
  (.block 0 (.loop (.seq (.seq (.reg [⟨(some 6), .op (.mv (.tmp 5)), none⟩,
    ⟨(some 7), .op (.mv (.tmp 0)), none⟩,
    ⟨(some 8), .op (.len false (.tmp 7)), none⟩,
    ⟨(some 9), .op (.bin .lss (.tmp 6) (.tmp 8)), none⟩])
  (.cond (.tmp 9) .skip
  (.exit 0)))
  (.seq (.block 1 (.seq (.seq (.reg [⟨(some 12), .op (.mv (.tmp 0)), none⟩,
    ⟨(some 13), .op (.mv (.tmp 5)), none⟩,
    ⟨(some 14), .op (.iaddrS (.tmp 12) (.tmp 13) 2), none⟩,
    ⟨(some 15), .op (.faddr (.tmp 14) 0), none⟩,
    ⟨(some 16), .op (.load 1 false (.tmp 15)), none⟩,
    ⟨(some 17), .op (.mv (.tmp 1)), none⟩,
    ⟨(some 18), .op (.bin .neq (.tmp 16) (.tmp 17)), none⟩])
  (.cond (.tmp 18) (.seq (.reg [⟨(some 4), .op (.mv (.const (Value.int .i64 (-1)))), none⟩])
  .ret)
  .skip))
  (.seq (.reg [⟨(some 19), .op (.mv (.tmp 1)), none⟩,
    ⟨(some 20), .op (.bin .add (.tmp 19) (.const (Value.int .i64 1))), none⟩,
    ⟨(some 1), .op (.mv (.tmp 20)), none⟩])
  (.seq (.seq (.draw [⟨0, ⟨(some 21), .op (.mv (.tmp 0)), none⟩, []⟩,
    ⟨1, ⟨(some 22), .op (.mv (.tmp 5)), none⟩, []⟩,
    ⟨2, ⟨(some 23), .op (.iaddrS (.tmp 21) (.tmp 22) 2), none⟩, []⟩,
    ⟨3, ⟨(some 24), .op (.faddr (.tmp 23) 1), none⟩, []⟩,
    ⟨4, ⟨(some 25), .op (.load 1 false (.tmp 24)), none⟩, []⟩,
    ⟨5, ⟨(some 26), .op (.mv (.tmp 1)), none⟩, []⟩,
    ⟨6, ⟨(some 27), .call (.func 202) [(.tmp 26)], none⟩, [2, 4]⟩,
    ⟨7, ⟨(some 28), .op (.bin .neq (.tmp 25) (.tmp 27)), none⟩, []⟩]
    [0, 0, 3, 7, 15, 0, 32, 127])
  (.cond (.tmp 28) (.seq (.reg [⟨(some 4), .op (.mv (.const (Value.int .i64 (-1)))), none⟩])
  .ret)
  .skip))
  (.reg [⟨(some 29), .op (.mv (.tmp 1)), none⟩,
    ⟨(some 30), .op (.bin .add (.tmp 29) (.const (Value.int .i64 1))), none⟩,
    ⟨(some 1), .op (.mv (.tmp 30)), none⟩])))))
  (.reg [⟨(some 10), .op (.mv (.tmp 5)), none⟩,
    ⟨(some 11), .op (.bin .add (.tmp 10) (.const (Value.int .i64 1))), none⟩,
    ⟨(some 5), .op (.mv (.tmp 11)), none⟩]))))))
  (.seq (.reg [⟨(some 31), .op (.mv (.tmp 1)), none⟩,
    ⟨(some 4), .op (.mv (.tmp 31)), none⟩])
  .ret)))
theorem cf163 : chkFn Try.prog 163 ac163 [.tmp 4] 32 = true := by decide +kernel

/-- The checked code of laws heldOutMoveSS. -/
def ac89 : AC := (.seq (.reg [⟨(some 4), .op (.mv (.const (Value.int .i64 0))), none⟩])
  (.seq (.seq (.reg [⟨(some 5), .op (.mv (.const (Value.int .i64 0))), none⟩])
  (.block 0 (.loop (.seq (.seq (.reg [⟨(some 6), .op (.mv (.tmp 5)), none⟩,
    ⟨(some 7), .op (.mv (.tmp 0)), none⟩,
    ⟨(some 8), .op (.len false (.tmp 7)), none⟩,
    ⟨(some 9), .op (.bin .lss (.tmp 6) (.tmp 8)), none⟩])
  (.cond (.tmp 9) .skip
  (.exit 0)))
  (.seq (.block 1 (.seq (.reg [⟨(some 12), .op (.mv (.tmp 0)), none⟩,
    ⟨(some 13), .op (.mv (.tmp 5)), none⟩,
    ⟨(some 14), .op (.iaddrS (.tmp 12) (.tmp 13) 1), none⟩,
    ⟨(some 15), .op (.load 1 false (.tmp 14)), none⟩,
    ⟨(some 16), .op (.mv (.tmp 1)), none⟩,
    ⟨(some 17), .call (.func 163) [(.tmp 15), (.tmp 16)], none⟩,
    ⟨(some 1), .op (.mv (.tmp 17)), none⟩])
  (.seq (.reg [⟨(some 18), .op (.mv (.tmp 1)), none⟩,
    ⟨(some 19), .op (.bin .lss (.tmp 18) (.const (Value.int .i64 0))), none⟩])
  (.cond (.tmp 19) (.seq (.reg [⟨(some 4), .op (.mv (.const (Value.int .i64 (-1)))), none⟩])
  .ret)
  .skip))))
  (.reg [⟨(some 10), .op (.mv (.tmp 5)), none⟩,
    ⟨(some 11), .op (.bin .add (.tmp 10) (.const (Value.int .i64 1))), none⟩,
    ⟨(some 5), .op (.mv (.tmp 11)), none⟩]))))))
  (.seq (.reg [⟨(some 20), .op (.mv (.tmp 1)), none⟩,
    ⟨(some 4), .op (.mv (.tmp 20)), none⟩])
  .ret)))
theorem cf89 : chkFn Try.prog 89 ac89 [.tmp 4] 21 = true := by decide +kernel

/-- The checked code of laws heldOutMoveSSS. -/
def ac88 : AC := (.seq (.reg [⟨(some 4), .op (.mv (.const (Value.int .i64 0))), none⟩])
  (.seq (.seq (.reg [⟨(some 5), .op (.mv (.const (Value.int .i64 0))), none⟩])
  (.block 0 (.loop (.seq (.seq (.reg [⟨(some 6), .op (.mv (.tmp 5)), none⟩,
    ⟨(some 7), .op (.mv (.tmp 0)), none⟩,
    ⟨(some 8), .op (.len false (.tmp 7)), none⟩,
    ⟨(some 9), .op (.bin .lss (.tmp 6) (.tmp 8)), none⟩])
  (.cond (.tmp 9) .skip
  (.exit 0)))
  (.seq (.block 1 (.seq (.reg [⟨(some 12), .op (.mv (.tmp 0)), none⟩,
    ⟨(some 13), .op (.mv (.tmp 5)), none⟩,
    ⟨(some 14), .op (.iaddrS (.tmp 12) (.tmp 13) 1), none⟩,
    ⟨(some 15), .op (.load 1 false (.tmp 14)), none⟩,
    ⟨(some 16), .op (.mv (.tmp 1)), none⟩,
    ⟨(some 17), .call (.func 89) [(.tmp 15), (.tmp 16)], none⟩,
    ⟨(some 1), .op (.mv (.tmp 17)), none⟩])
  (.seq (.reg [⟨(some 18), .op (.mv (.tmp 1)), none⟩,
    ⟨(some 19), .op (.bin .lss (.tmp 18) (.const (Value.int .i64 0))), none⟩])
  (.cond (.tmp 19) (.seq (.reg [⟨(some 4), .op (.mv (.const (Value.int .i64 (-1)))), none⟩])
  .ret)
  .skip))))
  (.reg [⟨(some 10), .op (.mv (.tmp 5)), none⟩,
    ⟨(some 11), .op (.bin .add (.tmp 10) (.const (Value.int .i64 1))), none⟩,
    ⟨(some 5), .op (.mv (.tmp 11)), none⟩]))))))
  (.seq (.reg [⟨(some 20), .op (.mv (.tmp 1)), none⟩,
    ⟨(some 4), .op (.mv (.tmp 20)), none⟩])
  .ret)))
theorem cf88 : chkFn Try.prog 88 ac88 [.tmp 4] 21 = true := by decide +kernel

/-- The checked code of laws heldRewriter. -/
def ac30 : AC := (.seq (.reg [⟨(some 2), .op (.box true (.tmp 0)), none⟩,
    ⟨(some 4), .op (.mv (.const (Value.int .i64 0))), none⟩])
  (.seq (.reg [⟨(some 5), .op (.faddr (.tmp 2) 2), none⟩,
    ⟨(some 6), .op (.load 1 false (.tmp 5)), none⟩,
    ⟨(some 7), .op (.mv (.tmp 1)), none⟩,
    ⟨(some 8), .call (.func 87) [(.tmp 6), (.tmp 7)], none⟩,
    ⟨(some 1), .op (.mv (.tmp 8)), none⟩])
  (.seq (.seq (.reg [⟨(some 9), .op (.mv (.tmp 1)), none⟩,
    ⟨(some 10), .op (.bin .lss (.tmp 9) (.const (Value.int .i64 0))), none⟩])
  (.cond (.tmp 10) (.seq (.reg [⟨(some 4), .op (.mv (.const (Value.int .i64 (-1)))), none⟩])
  .ret)
  .skip))
  (.seq (.reg [⟨(some 11), .op (.faddr (.tmp 2) 3), none⟩,
    ⟨(some 12), .op (.load 1 false (.tmp 11)), none⟩,
    ⟨(some 13), .op (.mv (.tmp 1)), none⟩,
    ⟨(some 14), .call (.func 88) [(.tmp 12), (.tmp 13)], none⟩,
    ⟨(some 1), .op (.mv (.tmp 14)), none⟩])
  (.seq (.seq (.reg [⟨(some 15), .op (.mv (.tmp 1)), none⟩,
    ⟨(some 16), .op (.bin .lss (.tmp 15) (.const (Value.int .i64 0))), none⟩])
  (.cond (.tmp 16) (.seq (.reg [⟨(some 4), .op (.mv (.const (Value.int .i64 (-1)))), none⟩])
  .ret)
  .skip))
  (.seq (.reg [⟨(some 17), .op (.faddr (.tmp 2) 4), none⟩,
    ⟨(some 18), .op (.load 1 false (.tmp 17)), none⟩,
    ⟨(some 19), .op (.mv (.tmp 1)), none⟩,
    ⟨(some 20), .call (.func 89) [(.tmp 18), (.tmp 19)], none⟩,
    ⟨(some 1), .op (.mv (.tmp 20)), none⟩])
  (.seq (.seq (.reg [⟨(some 21), .op (.mv (.tmp 1)), none⟩,
    ⟨(some 22), .op (.bin .lss (.tmp 21) (.const (Value.int .i64 0))), none⟩])
  (.cond (.tmp 22) (.seq (.reg [⟨(some 4), .op (.mv (.const (Value.int .i64 (-1)))), none⟩])
  .ret)
  .skip))
  (.seq (.reg [⟨(some 23), .op (.mv (.tmp 1)), none⟩,
    ⟨(some 4), .op (.mv (.tmp 23)), none⟩])
  .ret))))))))
theorem cf30 : chkFn Try.prog 30 ac30 [.tmp 4] 24 = true := by decide +kernel

/-- The checked code of spec l06Plain. -/
def ac78 : AC := (.seq (.reg [⟨(some 4), .op (.alloc (Value.agg #[Value.int .i64 0, Value.int .i64 0, Value.slice none 0 0, Value.slice none 0 0, Value.slice none 0 0])), none⟩])
  (.seq (.reg [⟨(some 9), .op (.mv (.tmp 1)), none⟩,
    ⟨(some 10), .op (.build [Value.int .i64 0, Value.int .i64 0, Value.slice none 0 0, Value.slice none 0 0, Value.slice none 0 0] [(0, 1, (.tmp 9))]), none⟩,
    ⟨(some 5), .op (.alloc (Value.agg #[Value.int .i64 0, Value.int .i64 0, Value.slice none 0 0, Value.slice none 0 0, Value.slice none 0 0])), none⟩,
    ⟨none, .op (.store 5 (.tmp 5) (.tmp 10)), none⟩])
  (.seq (.seq (.reg [⟨(some 6), .op (.mv (.const (Value.int .i64 0))), none⟩])
  (.block 0 (.loop (.seq (.seq (.reg [⟨(some 11), .op (.mv (.tmp 6)), none⟩,
    ⟨(some 12), .op (.mv (.tmp 0)), none⟩,
    ⟨(some 13), .op (.bin .lss (.tmp 11) (.tmp 12)), none⟩])
  (.cond (.tmp 13) .skip
  (.exit 0)))
  (.seq (.block 1 (.seq (.reg [⟨(some 16), .op (.faddr (.tmp 5) 2), none⟩,
    ⟨(some 17), .op (.load 1 false (.tmp 16)), none⟩,
    ⟨(some 18), .op (.mv (.tmp 6)), none⟩,
    ⟨(some 19), .op (.build [Value.int .i64 0, Value.int .i64 0, Value.string ⟨#[]⟩] [(0, 1, (.tmp 18)), (2, 1, (.const (Value.string ⟨#[40]⟩)))]), none⟩,
    ⟨(some 20), .op (.mv (.tmp 6)), none⟩,
    ⟨(some 21), .op (.build [Value.int .i64 0, Value.int .i64 0, Value.string ⟨#[]⟩] [(0, 1, (.tmp 20)), (2, 1, (.const (Value.string ⟨#[91]⟩)))]), none⟩,
    ⟨(some 22), .op (.lits false 3 2 (Value.agg #[Value.int .i64 0, Value.int .i64 0, Value.string ⟨#[]⟩]) [(0, (.tmp 19)), (1, (.tmp 21))]), none⟩,
    ⟨(some 23), .op (.lits true 1 1 (Value.slice none 0 0) [(0, (.tmp 22))]), none⟩,
    ⟨(some 24), .op (.append (.tmp 17) (.tmp 23) 1 24), none⟩,
    ⟨(some 25), .op (.faddr (.tmp 5) 2), none⟩,
    ⟨none, .op (.store 1 (.tmp 25) (.tmp 24)), none⟩])
  (.seq (.reg [⟨(some 26), .op (.faddr (.tmp 5) 4), none⟩,
    ⟨(some 27), .op (.load 1 false (.tmp 26)), none⟩,
    ⟨(some 28), .op (.mv (.tmp 6)), none⟩,
    ⟨(some 29), .op (.build [Value.int .i64 0, Value.string ⟨#[]⟩] [(0, 1, (.tmp 28)), (1, 1, (.const (Value.string ⟨#[97]⟩)))]), none⟩,
    ⟨(some 30), .op (.mv (.tmp 6)), none⟩,
    ⟨(some 31), .op (.build [Value.int .i64 0, Value.string ⟨#[]⟩] [(0, 1, (.tmp 30)), (1, 1, (.const (Value.string ⟨#[98]⟩)))]), none⟩,
    ⟨(some 32), .op (.lits false 2 2 (Value.agg #[Value.int .i64 0, Value.string ⟨#[]⟩]) [(0, (.tmp 29)), (1, (.tmp 31))]), none⟩,
    ⟨(some 33), .op (.lits true 1 1 (Value.slice none 0 0) [(0, (.tmp 32))]), none⟩,
    ⟨(some 34), .op (.append (.tmp 27) (.tmp 33) 1 24), none⟩,
    ⟨(some 35), .op (.faddr (.tmp 5) 4), none⟩,
    ⟨none, .op (.store 1 (.tmp 35) (.tmp 34)), none⟩])
  (.seq (.reg [⟨(some 36), .op (.lits true 2 0 (Value.agg #[Value.int .i64 0, Value.string ⟨#[]⟩]) []), none⟩,
    ⟨(some 37), .op (.lits true 2 0 (Value.agg #[Value.int .i64 0, Value.string ⟨#[]⟩]) []), none⟩,
    ⟨(some 38), .op (.lits false 1 2 (Value.slice none 0 0) [(0, (.tmp 36)), (1, (.tmp 37))]), none⟩,
    ⟨(some 7), .op (.mv (.tmp 38)), none⟩])
  (.seq (.seq (.reg [⟨(some 8), .op (.mv (.const (Value.int .i64 0))), none⟩])
  (.block 2 (.loop (.seq (.seq (.reg [⟨(some 39), .op (.mv (.tmp 8)), none⟩,
    ⟨(some 40), .op (.mv (.tmp 1)), none⟩,
    ⟨(some 41), .op (.bin .leq (.tmp 39) (.tmp 40)), none⟩])
  (.cond (.tmp 41) .skip
  (.exit 2)))
  (.seq (.block 3 (.seq (.reg [⟨(some 44), .op (.mv (.tmp 7)), none⟩,
    ⟨(some 45), .op (.mv (.tmp 7)), none⟩,
    ⟨(some 46), .op (.iaddrS (.tmp 45) (.const (Value.int .i64 0)) 1), none⟩,
    ⟨(some 47), .op (.load 1 false (.tmp 46)), none⟩,
    ⟨(some 48), .op (.mv (.tmp 6)), none⟩,
    ⟨(some 49), .op (.build [Value.int .i64 0, Value.string ⟨#[]⟩] [(0, 1, (.tmp 48)), (1, 1, (.const (Value.string ⟨#[41]⟩)))]), none⟩,
    ⟨(some 50), .op (.lits true 2 1 (Value.agg #[Value.int .i64 0, Value.string ⟨#[]⟩]) [(0, (.tmp 49))]), none⟩,
    ⟨(some 51), .op (.append (.tmp 47) (.tmp 50) 2 24), none⟩,
    ⟨(some 52), .op (.iaddrS (.tmp 44) (.const (Value.int .i64 0)) 1), none⟩,
    ⟨none, .op (.store 1 (.tmp 52) (.tmp 51)), none⟩])
  (.reg [⟨(some 53), .op (.mv (.tmp 7)), none⟩,
    ⟨(some 54), .op (.mv (.tmp 7)), none⟩,
    ⟨(some 55), .op (.iaddrS (.tmp 54) (.const (Value.int .i64 1)) 1), none⟩,
    ⟨(some 56), .op (.load 1 false (.tmp 55)), none⟩,
    ⟨(some 57), .op (.mv (.tmp 6)), none⟩,
    ⟨(some 58), .op (.build [Value.int .i64 0, Value.string ⟨#[]⟩] [(0, 1, (.tmp 57)), (1, 1, (.const (Value.string ⟨#[93]⟩)))]), none⟩,
    ⟨(some 59), .op (.lits true 2 1 (Value.agg #[Value.int .i64 0, Value.string ⟨#[]⟩]) [(0, (.tmp 58))]), none⟩,
    ⟨(some 60), .op (.append (.tmp 56) (.tmp 59) 2 24), none⟩,
    ⟨(some 61), .op (.iaddrS (.tmp 53) (.const (Value.int .i64 1)) 1), none⟩,
    ⟨none, .op (.store 1 (.tmp 61) (.tmp 60)), none⟩])))
  (.reg [⟨(some 42), .op (.mv (.tmp 8)), none⟩,
    ⟨(some 43), .op (.bin .add (.tmp 42) (.const (Value.int .i64 1))), none⟩,
    ⟨(some 8), .op (.mv (.tmp 43)), none⟩]))))))
  (.reg [⟨(some 62), .op (.faddr (.tmp 5) 3), none⟩,
    ⟨(some 63), .op (.load 1 false (.tmp 62)), none⟩,
    ⟨(some 64), .op (.mv (.tmp 7)), none⟩,
    ⟨(some 65), .op (.lits true 1 1 (Value.slice none 0 0) [(0, (.tmp 64))]), none⟩,
    ⟨(some 66), .op (.append (.tmp 63) (.tmp 65) 1 24), none⟩,
    ⟨(some 67), .op (.faddr (.tmp 5) 3), none⟩,
    ⟨none, .op (.store 1 (.tmp 67) (.tmp 66)), none⟩]))))))
  (.reg [⟨(some 14), .op (.mv (.tmp 6)), none⟩,
    ⟨(some 15), .op (.bin .add (.tmp 14) (.const (Value.int .i64 1))), none⟩,
    ⟨(some 6), .op (.mv (.tmp 15)), none⟩]))))))
  (.seq (.reg [⟨(some 68), .op (.load 5 true (.tmp 5)), none⟩,
    ⟨none, .op (.store 5 (.tmp 4) (.tmp 68)), none⟩])
  .ret))))
theorem cf78 : chkFn Try.prog 78 ac78 [.cell 4 5 true] 69 = true := by decide +kernel

/-- The checked code of spec FixRewriter. -/
def ac31 : AC := (.seq (.reg [⟨(some 0), .op (.alloc (Value.agg #[Value.int .i64 0, Value.int .i64 0, Value.slice none 0 0, Value.slice none 0 0, Value.slice none 0 0])), none⟩])
  (.seq (.reg [⟨(some 3), .call (.func 78) [(.const (Value.int .i64 1)), (.const (Value.int .i64 2))], none⟩,
    ⟨(some 1), .op (.alloc (Value.agg #[Value.int .i64 0, Value.int .i64 0, Value.slice none 0 0, Value.slice none 0 0, Value.slice none 0 0])), none⟩,
    ⟨none, .op (.store 5 (.tmp 1) (.tmp 3)), none⟩])
  (.seq (.reg [⟨(some 4), .op (.faddr (.tmp 1) 2), none⟩,
    ⟨(some 5), .op (.load 1 false (.tmp 4)), none⟩,
    ⟨(some 6), .op (.iaddrS (.tmp 5) (.const (Value.int .i64 0)) 1), none⟩,
    ⟨(some 7), .op (.load 1 false (.tmp 6)), none⟩,
    ⟨(some 8), .op (.iaddrS (.tmp 7) (.const (Value.int .i64 1)) 3), none⟩,
    ⟨(some 9), .op (.faddr (.tmp 8) 1), none⟩,
    ⟨none, .op (.store 1 (.tmp 9) (.const (Value.int .i64 1))), none⟩])
  (.seq (.seq (.reg [⟨(some 2), .op (.mv (.const (Value.int .i64 0))), none⟩])
  (.block 0 (.loop (.seq (.seq (.reg [⟨(some 10), .op (.mv (.tmp 2)), none⟩,
    ⟨(some 11), .op (.bin .lss (.tmp 10) (.const (Value.int .i64 2))), none⟩])
  (.cond (.tmp 11) .skip
  (.exit 0)))
  (.seq (.block 1 (.seq (.reg [⟨(some 14), .op (.faddr (.tmp 1) 3), none⟩,
    ⟨(some 15), .op (.load 1 false (.tmp 14)), none⟩,
    ⟨(some 16), .op (.iaddrS (.tmp 15) (.const (Value.int .i64 0)) 1), none⟩,
    ⟨(some 17), .op (.load 1 false (.tmp 16)), none⟩,
    ⟨(some 18), .op (.mv (.tmp 2)), none⟩,
    ⟨(some 19), .op (.iaddrS (.tmp 17) (.tmp 18) 1), none⟩,
    ⟨(some 20), .op (.load 1 false (.tmp 19)), none⟩,
    ⟨(some 21), .op (.iaddrS (.tmp 20) (.const (Value.int .i64 0)) 2), none⟩,
    ⟨(some 22), .op (.faddr (.tmp 21) 1), none⟩,
    ⟨none, .op (.store 1 (.tmp 22) (.const (Value.string ⟨#[41]⟩))), none⟩])
  (.reg [⟨(some 23), .op (.faddr (.tmp 1) 3), none⟩,
    ⟨(some 24), .op (.load 1 false (.tmp 23)), none⟩,
    ⟨(some 25), .op (.iaddrS (.tmp 24) (.const (Value.int .i64 0)) 1), none⟩,
    ⟨(some 26), .op (.load 1 false (.tmp 25)), none⟩,
    ⟨(some 27), .op (.mv (.tmp 2)), none⟩,
    ⟨(some 28), .op (.iaddrS (.tmp 26) (.tmp 27) 1), none⟩,
    ⟨(some 29), .op (.load 1 false (.tmp 28)), none⟩,
    ⟨(some 30), .op (.iaddrS (.tmp 29) (.const (Value.int .i64 1)) 2), none⟩,
    ⟨(some 31), .op (.faddr (.tmp 30) 1), none⟩,
    ⟨none, .op (.store 1 (.tmp 31) (.const (Value.string ⟨#[93]⟩))), none⟩])))
  (.reg [⟨(some 12), .op (.mv (.tmp 2)), none⟩,
    ⟨(some 13), .op (.bin .add (.tmp 12) (.const (Value.int .i64 1))), none⟩,
    ⟨(some 2), .op (.mv (.tmp 13)), none⟩]))))))
  (.seq (.reg [⟨(some 32), .op (.load 5 true (.tmp 1)), none⟩,
    ⟨none, .op (.store 5 (.tmp 0) (.tmp 32)), none⟩])
  .ret)))))
theorem cf31 : chkFn Try.prog 31 ac31 [.cell 0 5 true] 33 = true := by decide +kernel

/-- The checked code of impl builtRewriter. -/
def ac90 : AC := (.seq (.reg [⟨(some 12), .op (.alloc (Value.agg #[Value.int .i64 0, Value.int .i64 0, Value.slice none 0 0, Value.slice none 0 0, Value.slice none 0 0])), none⟩])
  (.seq (.reg [⟨(some 21), .op (.mv (.tmp 1)), none⟩,
    ⟨(some 22), .op (.mv (.tmp 2)), none⟩,
    ⟨(some 23), .op (.build [Value.int .i64 0, Value.int .i64 0, Value.slice none 0 0, Value.slice none 0 0, Value.slice none 0 0] [(0, 1, (.tmp 21)), (1, 1, (.tmp 22))]), none⟩,
    ⟨(some 13), .op (.alloc (Value.agg #[Value.int .i64 0, Value.int .i64 0, Value.slice none 0 0, Value.slice none 0 0, Value.slice none 0 0])), none⟩,
    ⟨none, .op (.store 5 (.tmp 13) (.tmp 23)), none⟩])
  (.seq (.seq (.reg [⟨(some 24), .op (.mv (.tmp 0)), none⟩,
    ⟨(some 25), .op (.mv (.const (Value.int .i64 0))), none⟩])
  (.block 0 (.loop (.seq (.reg [⟨(some 26), .op (.bin .lss (.tmp 25) (.tmp 24)), none⟩])
  (.seq (.cond (.tmp 26) .skip
  (.exit 0))
  (.seq (.block 1 (.seq (.reg [⟨(some 27), .op (.mv (.tmp 25)), none⟩,
    ⟨(some 14), .op (.mv (.tmp 27)), none⟩])
  (.seq (.reg [⟨(some 28), .op (.lits true 3 0 (Value.agg #[Value.int .i64 0, Value.int .i64 0, Value.string ⟨#[]⟩]) []), none⟩,
    ⟨(some 29), .op (.lits true 1 0 (Value.slice none 0 0) []), none⟩,
    ⟨(some 30), .op (.lits true 2 0 (Value.agg #[Value.int .i64 0, Value.string ⟨#[]⟩]) []), none⟩,
    ⟨(some 15), .op (.mv (.tmp 28)), none⟩,
    ⟨(some 16), .op (.mv (.tmp 29)), none⟩,
    ⟨(some 17), .op (.mv (.tmp 30)), none⟩])
  (.seq (.seq (.reg [⟨(some 31), .op (.mv (.const (Value.int .i64 0))), none⟩])
  (.block 2 (.loop (.seq (.reg [⟨(some 32), .op (.bin .lss (.tmp 31) (.const (Value.int .i64 2))), none⟩])
  (.seq (.cond (.tmp 32) .skip
  (.exit 2))
  (.seq (.block 3 (.seq (.reg [⟨(some 33), .op (.mv (.tmp 31)), none⟩,
    ⟨(some 18), .op (.mv (.tmp 33)), none⟩])
  (.seq (.reg [⟨(some 34), .op (.lits true 2 0 (Value.agg #[Value.int .i64 0, Value.string ⟨#[]⟩]) []), none⟩,
    ⟨(some 19), .op (.mv (.tmp 34)), none⟩])
  (.seq (.seq (.reg [⟨(some 35), .op (.mv (.tmp 1)), none⟩,
    ⟨(some 36), .op (.bin .add (.tmp 35) (.const (Value.int .i64 1))), none⟩,
    ⟨(some 37), .op (.mv (.const (Value.int .i64 0))), none⟩])
  (.block 4 (.loop (.seq (.reg [⟨(some 38), .op (.bin .lss (.tmp 37) (.tmp 36)), none⟩])
  (.seq (.cond (.tmp 38) .skip
  (.exit 4))
  (.seq (.block 5 (.seq (.reg [⟨(some 39), .op (.mv (.tmp 37)), none⟩,
    ⟨(some 20), .op (.mv (.tmp 39)), none⟩])
  (.reg [⟨(some 40), .op (.mv (.tmp 19)), none⟩,
    ⟨(some 41), .op (.mv (.tmp 4)), none⟩,
    ⟨(some 42), .op (.mv (.tmp 14)), none⟩,
    ⟨(some 43), .op (.mv (.tmp 18)), none⟩,
    ⟨(some 44), .op (.mv (.tmp 20)), none⟩,
    ⟨(some 45), .call (.tmp 41) [(.tmp 42), (.tmp 43), (.tmp 44)], none⟩,
    ⟨(some 46), .op (.lits true 2 1 (Value.agg #[Value.int .i64 0, Value.string ⟨#[]⟩]) [(0, (.tmp 45))]), none⟩,
    ⟨(some 47), .op (.append (.tmp 40) (.tmp 46) 2 24), none⟩,
    ⟨(some 19), .op (.mv (.tmp 47)), none⟩])))
  (.reg [⟨(some 48), .op (.bin .add (.tmp 37) (.const (Value.int .i64 1))), none⟩,
    ⟨(some 37), .op (.mv (.tmp 48)), none⟩])))))))
  (.reg [⟨(some 49), .op (.mv (.tmp 15)), none⟩,
    ⟨(some 50), .op (.mv (.tmp 3)), none⟩,
    ⟨(some 51), .op (.mv (.tmp 14)), none⟩,
    ⟨(some 52), .op (.mv (.tmp 18)), none⟩,
    ⟨(some 53), .call (.tmp 50) [(.tmp 51), (.tmp 52)], none⟩,
    ⟨(some 54), .op (.lits true 3 1 (Value.agg #[Value.int .i64 0, Value.int .i64 0, Value.string ⟨#[]⟩]) [(0, (.tmp 53))]), none⟩,
    ⟨(some 55), .op (.append (.tmp 49) (.tmp 54) 3 32), none⟩,
    ⟨(some 56), .op (.mv (.tmp 16)), none⟩,
    ⟨(some 57), .op (.mv (.tmp 19)), none⟩,
    ⟨(some 58), .op (.lits true 1 1 (Value.slice none 0 0) [(0, (.tmp 57))]), none⟩,
    ⟨(some 59), .op (.append (.tmp 56) (.tmp 58) 1 24), none⟩,
    ⟨(some 60), .op (.mv (.tmp 17)), none⟩,
    ⟨(some 61), .op (.mv (.tmp 5)), none⟩,
    ⟨(some 62), .op (.mv (.tmp 14)), none⟩,
    ⟨(some 63), .op (.mv (.tmp 18)), none⟩,
    ⟨(some 64), .call (.tmp 61) [(.tmp 62), (.tmp 63)], none⟩,
    ⟨(some 65), .op (.lits true 2 1 (Value.agg #[Value.int .i64 0, Value.string ⟨#[]⟩]) [(0, (.tmp 64))]), none⟩,
    ⟨(some 66), .op (.append (.tmp 60) (.tmp 65) 2 24), none⟩,
    ⟨(some 15), .op (.mv (.tmp 55)), none⟩,
    ⟨(some 16), .op (.mv (.tmp 59)), none⟩,
    ⟨(some 17), .op (.mv (.tmp 66)), none⟩])))))
  (.reg [⟨(some 67), .op (.bin .add (.tmp 31) (.const (Value.int .i64 1))), none⟩,
    ⟨(some 31), .op (.mv (.tmp 67)), none⟩])))))))
  (.draw [⟨0, ⟨(some 68), .op (.faddr (.tmp 13) 2), none⟩, []⟩,
    ⟨1, ⟨(some 69), .op (.load 1 false (.tmp 68)), none⟩, []⟩,
    ⟨2, ⟨(some 70), .op (.mv (.tmp 15)), none⟩, []⟩,
    ⟨3, ⟨(some 71), .op (.lits true 1 1 (Value.slice none 0 0) [(0, (.tmp 70))]), none⟩, []⟩,
    ⟨5, ⟨(some 73), .op (.faddr (.tmp 13) 3), none⟩, []⟩,
    ⟨6, ⟨(some 74), .op (.load 1 false (.tmp 73)), none⟩, []⟩,
    ⟨7, ⟨(some 75), .op (.mv (.tmp 16)), none⟩, []⟩,
    ⟨8, ⟨(some 76), .op (.lits true 1 1 (Value.slice none 0 0) [(0, (.tmp 75))]), none⟩, []⟩,
    ⟨10, ⟨(some 78), .op (.faddr (.tmp 13) 4), none⟩, []⟩,
    ⟨11, ⟨(some 79), .op (.load 1 false (.tmp 78)), none⟩, []⟩,
    ⟨12, ⟨(some 80), .op (.mv (.tmp 17)), none⟩, []⟩,
    ⟨13, ⟨(some 81), .op (.lits true 1 1 (Value.slice none 0 0) [(0, (.tmp 80))]), none⟩, []⟩,
    ⟨4, ⟨(some 72), .op (.append (.tmp 69) (.tmp 71) 1 24), none⟩, [6, 11]⟩,
    ⟨15, ⟨(some 83), .op (.faddr (.tmp 13) 2), none⟩, []⟩,
    ⟨9, ⟨(some 77), .op (.append (.tmp 74) (.tmp 76) 1 24), none⟩, [11]⟩,
    ⟨14, ⟨(some 82), .op (.append (.tmp 79) (.tmp 81) 1 24), none⟩, []⟩,
    ⟨16, ⟨none, .op (.store 1 (.tmp 83) (.tmp 72)), none⟩, []⟩,
    ⟨17, ⟨(some 84), .op (.faddr (.tmp 13) 3), none⟩, []⟩,
    ⟨18, ⟨none, .op (.store 1 (.tmp 84) (.tmp 77)), none⟩, []⟩,
    ⟨19, ⟨(some 85), .op (.faddr (.tmp 13) 4), none⟩, []⟩,
    ⟨20, ⟨none, .op (.store 1 (.tmp 85) (.tmp 82)), none⟩, []⟩]
    [0, 1, 0, 4, 15, 0, 32, 0, 128, 511, 0, 1024, 0, 4096, 16383, 3199, 65535, 131071, 262143, 524287, 1048575])))))
  (.reg [⟨(some 86), .op (.bin .add (.tmp 25) (.const (Value.int .i64 1))), none⟩,
    ⟨(some 25), .op (.mv (.tmp 86)), none⟩])))))))
  (.seq (.reg [⟨(some 87), .op (.load 5 true (.tmp 13)), none⟩,
    ⟨none, .op (.store 5 (.tmp 12) (.tmp 87)), none⟩])
  .ret))))
theorem cf90 : chkFn Try.prog 90 ac90 [.cell 12 5 true] 88 = true := by decide +kernel

/-- The checked code of impl symbol. -/
def ac80 : AC := (.seq (.reg [⟨(some 2), .op (.mv (.const (Value.string ⟨#[]⟩))), none⟩])
  (.seq (.reg [⟨(some 3), .op (.mv (.tmp 0)), none⟩,
    ⟨(some 4), .op (.mv (.tmp 0)), none⟩,
    ⟨(some 5), .op (.bin .add (.tmp 4) (.const (Value.int .i64 1))), none⟩,
    ⟨(some 6), .op (.slcStr (.const (Value.string ⟨#[40, 91, 41, 93, 97, 98]⟩)) (some (.tmp 3)) (some (.tmp 5))), none⟩,
    ⟨(some 2), .op (.mv (.tmp 6)), none⟩])
  .ret))
theorem cf80 : chkFn Try.prog 80 ac80 [.tmp 2] 7 = true := by decide +kernel

/-- The checked code of impl FixRewriter 1. -/
def ac91 : AC := (.seq (.reg [⟨(some 4), .op (.alloc (Value.agg #[Value.int .i64 0, Value.int .i64 0, Value.string ⟨#[]⟩])), none⟩])
  (.seq (.reg [⟨(some 5), .op (.mv (.tmp 1)), none⟩,
    ⟨(some 6), .op (.mv (.tmp 1)), none⟩,
    ⟨(some 7), .call (.func 80) [(.tmp 6)], none⟩,
    ⟨(some 8), .op (.build [Value.int .i64 0, Value.int .i64 0, Value.string ⟨#[]⟩] [(1, 1, (.tmp 5)), (2, 1, (.tmp 7))]), none⟩,
    ⟨none, .op (.store 3 (.tmp 4) (.tmp 8)), none⟩])
  .ret))
theorem cf91 : chkFn Try.prog 91 ac91 [.cell 4 3 true] 9 = true := by decide +kernel

/-- The checked code of impl FixRewriter 2. -/
def ac92 : AC := (.seq (.reg [⟨(some 6), .op (.alloc (Value.agg #[Value.int .i64 0, Value.string ⟨#[]⟩])), none⟩])
  (.seq (.seq (.reg [⟨(some 7), .op (.mv (.tmp 2)), none⟩,
    ⟨(some 8), .op (.bin .lss (.tmp 7) (.const (Value.int .i64 2))), none⟩])
  (.cond (.tmp 8) (.reg [⟨(some 9), .op (.mv (.tmp 2)), none⟩,
    ⟨(some 1), .op (.mv (.tmp 9)), none⟩])
  .skip))
  (.seq (.reg [⟨(some 10), .op (.mv (.tmp 1)), none⟩,
    ⟨(some 11), .op (.bin .add (.const (Value.int .i64 2)) (.tmp 10)), none⟩,
    ⟨(some 12), .call (.func 80) [(.tmp 11)], none⟩,
    ⟨(some 13), .op (.build [Value.int .i64 0, Value.string ⟨#[]⟩] [(1, 1, (.tmp 12))]), none⟩,
    ⟨none, .op (.store 2 (.tmp 6) (.tmp 13)), none⟩])
  .ret)))
theorem cf92 : chkFn Try.prog 92 ac92 [.cell 6 2 true] 14 = true := by decide +kernel

/-- The checked code of impl FixRewriter 3. -/
def ac93 : AC := (.seq (.reg [⟨(some 4), .op (.alloc (Value.agg #[Value.int .i64 0, Value.string ⟨#[]⟩])), none⟩])
  (.seq (.reg [⟨(some 5), .op (.mv (.tmp 1)), none⟩,
    ⟨(some 6), .op (.bin .add (.const (Value.int .i64 4)) (.tmp 5)), none⟩,
    ⟨(some 7), .call (.func 80) [(.tmp 6)], none⟩,
    ⟨(some 8), .op (.build [Value.int .i64 0, Value.string ⟨#[]⟩] [(1, 1, (.tmp 7))]), none⟩,
    ⟨none, .op (.store 2 (.tmp 4) (.tmp 8)), none⟩])
  .ret))
theorem cf93 : chkFn Try.prog 93 ac93 [.cell 4 2 true] 9 = true := by decide +kernel

/-- The checked code of impl FixRewriter. -/
def ac32 : AC := (.seq (.reg [⟨(some 0), .op (.alloc (Value.agg #[Value.int .i64 0, Value.int .i64 0, Value.slice none 0 0, Value.slice none 0 0, Value.slice none 0 0])), none⟩])
  (.seq (.reg [⟨(some 1), .call (.func 90) [(.const (Value.int .i64 1)), (.const (Value.int .i64 2)), (.const (Value.int .i64 0)), (.func 91), (.func 92), (.func 93)], none⟩,
    ⟨none, .op (.store 5 (.tmp 0) (.tmp 1)), none⟩])
  .ret))
theorem cf32 : chkFn Try.prog 32 ac32 [.cell 0 5 true] 2 = true := by decide +kernel

/-- The checked code of laws FnExactFixRewriter. -/
def ac7 : AC := (.seq (.reg [⟨(some 0), .op (.mv (.const (Value.bool false))), none⟩])
  (.seq (.reg [⟨(some 6), .call (.func 31) [], none⟩,
    ⟨(some 1), .op (.alloc (Value.agg #[Value.int .i64 0, Value.int .i64 0, Value.slice none 0 0, Value.slice none 0 0, Value.slice none 0 0])), none⟩,
    ⟨none, .op (.store 5 (.tmp 1) (.tmp 6)), none⟩])
  (.seq (.reg [⟨(some 7), .call (.func 32) [], none⟩,
    ⟨(some 2), .op (.alloc (Value.agg #[Value.int .i64 0, Value.int .i64 0, Value.slice none 0 0, Value.slice none 0 0, Value.slice none 0 0])), none⟩,
    ⟨none, .op (.store 5 (.tmp 2) (.tmp 7)), none⟩])
  (.seq (.seq (.reg [⟨(some 8), .op (.load 5 true (.tmp 2)), none⟩,
    ⟨(some 9), .op (.load 5 true (.tmp 1)), none⟩,
    ⟨(some 10), .call (.func 28) [(.tmp 8), (.tmp 9)], none⟩,
    ⟨(some 11), .op (.un .not (.tmp 10)), none⟩])
  (.cond (.tmp 11) (.seq (.reg [⟨(some 0), .op (.mv (.const (Value.bool false))), none⟩])
  .ret)
  .skip))
  (.seq (.reg [⟨(some 3), .op (.mv (.const (Value.int .i64 1))), none⟩])
  (.seq (.reg [⟨(some 12), .op (.load 5 true (.tmp 2)), none⟩,
    ⟨(some 13), .op (.mv (.tmp 3)), none⟩,
    ⟨(some 14), .call (.func 29) [(.tmp 12), (.tmp 13)], none⟩,
    ⟨(some 3), .op (.mv (.tmp 14)), none⟩])
  (.seq (.reg [⟨(some 4), .op (.mv (.const (Value.int .i64 1))), none⟩])
  (.seq (.reg [⟨(some 15), .op (.load 5 true (.tmp 2)), none⟩,
    ⟨(some 16), .op (.mv (.tmp 4)), none⟩,
    ⟨(some 17), .call (.func 30) [(.tmp 15), (.tmp 16)], none⟩,
    ⟨(some 4), .op (.mv (.tmp 17)), none⟩])
  (.seq (.seq (.reg [⟨(some 18), .op (.mv (.tmp 4)), none⟩,
    ⟨(some 19), .op (.bin .lss (.tmp 18) (.const (Value.int .i64 0))), none⟩])
  (.cond (.tmp 19) (.seq (.reg [⟨(some 0), .op (.mv (.const (Value.bool false))), none⟩])
  .ret)
  .skip))
  (.seq (.seq (.reg [⟨(some 20), .op (.mv (.tmp 4)), none⟩,
    ⟨(some 21), .op (.mv (.tmp 3)), none⟩,
    ⟨(some 22), .op (.bin .neq (.tmp 20) (.tmp 21)), none⟩])
  (.cond (.tmp 22) (.seq (.reg [⟨(some 0), .op (.mv (.const (Value.bool false))), none⟩])
  .ret)
  .skip))
  (.seq (.reg [⟨(some 23), .call (.func 32) [], none⟩,
    ⟨(some 5), .op (.alloc (Value.agg #[Value.int .i64 0, Value.int .i64 0, Value.slice none 0 0, Value.slice none 0 0, Value.slice none 0 0])), none⟩,
    ⟨none, .op (.store 5 (.tmp 5) (.tmp 23)), none⟩])
  (.seq (.seq (.reg [⟨(some 24), .op (.load 5 true (.tmp 5)), none⟩,
    ⟨(some 25), .op (.load 5 true (.tmp 1)), none⟩,
    ⟨(some 26), .call (.func 28) [(.tmp 24), (.tmp 25)], none⟩,
    ⟨(some 27), .op (.un .not (.tmp 26)), none⟩])
  (.cond (.tmp 27) (.seq (.reg [⟨(some 0), .op (.mv (.const (Value.bool false))), none⟩])
  .ret)
  .skip))
  (.seq (.reg [⟨(some 4), .op (.mv (.const (Value.int .i64 1))), none⟩])
  (.seq (.reg [⟨(some 28), .op (.load 5 true (.tmp 2)), none⟩,
    ⟨(some 29), .op (.mv (.tmp 4)), none⟩,
    ⟨(some 30), .call (.func 30) [(.tmp 28), (.tmp 29)], none⟩,
    ⟨(some 4), .op (.mv (.tmp 30)), none⟩])
  (.seq (.seq (.reg [⟨(some 31), .op (.mv (.tmp 4)), none⟩,
    ⟨(some 32), .op (.bin .lss (.tmp 31) (.const (Value.int .i64 0))), none⟩])
  (.cond (.tmp 32) (.seq (.reg [⟨(some 0), .op (.mv (.const (Value.bool false))), none⟩])
  .ret)
  .skip))
  (.seq (.seq (.reg [⟨(some 33), .op (.mv (.tmp 4)), none⟩,
    ⟨(some 34), .op (.mv (.tmp 3)), none⟩,
    ⟨(some 35), .op (.bin .neq (.tmp 33) (.tmp 34)), none⟩])
  (.cond (.tmp 35) (.seq (.reg [⟨(some 0), .op (.mv (.const (Value.bool false))), none⟩])
  .ret)
  .skip))
  (.seq (.reg [⟨(some 0), .op (.mv (.const (Value.bool true))), none⟩])
  .ret)))))))))))))))))
theorem cf7 : chkFn Try.prog 7 ac7 [.tmp 0] 36 = true := by decide +kernel

/-- All functions that the law reaches. -/
def tbl : List (FnE Try.prog) := [⟨200, ⟨ac200, [.tmp 4], 20, false⟩, cf200⟩,
  ⟨158, ⟨ac158, [.tmp 4], 27, false⟩, cf158⟩,
  ⟨81, ⟨ac81, [.tmp 4], 27, false⟩, cf81⟩,
  ⟨201, ⟨ac201, [.tmp 4], 15, false⟩, cf201⟩,
  ⟨159, ⟨ac159, [.tmp 4], 27, false⟩, cf159⟩,
  ⟨83, ⟨ac83, [.tmp 4], 27, false⟩, cf83⟩,
  ⟨82, ⟨ac82, [.tmp 4], 27, false⟩, cf82⟩,
  ⟨28, ⟨ac28, [.tmp 4], 33, false⟩, cf28⟩,
  ⟨202, ⟨ac202, [.tmp 2], 20, false⟩, cf202⟩,
  ⟨160, ⟨ac160, [.tmp 4], 35, true⟩, cf160⟩,
  ⟨84, ⟨ac84, [.tmp 4], 19, true⟩, cf84⟩,
  ⟨161, ⟨ac161, [.tmp 4], 28, true⟩, cf161⟩,
  ⟨86, ⟨ac86, [.tmp 4], 19, true⟩, cf86⟩,
  ⟨85, ⟨ac85, [.tmp 4], 19, true⟩, cf85⟩,
  ⟨29, ⟨ac29, [.tmp 4], 18, true⟩, cf29⟩,
  ⟨162, ⟨ac162, [.tmp 4], 41, false⟩, cf162⟩,
  ⟨87, ⟨ac87, [.tmp 4], 21, false⟩, cf87⟩,
  ⟨163, ⟨ac163, [.tmp 4], 32, false⟩, cf163⟩,
  ⟨89, ⟨ac89, [.tmp 4], 21, false⟩, cf89⟩,
  ⟨88, ⟨ac88, [.tmp 4], 21, false⟩, cf88⟩,
  ⟨30, ⟨ac30, [.tmp 4], 24, false⟩, cf30⟩,
  ⟨78, ⟨ac78, [.cell 4 5 true], 69, false⟩, cf78⟩,
  ⟨31, ⟨ac31, [.cell 0 5 true], 33, false⟩, cf31⟩,
  ⟨90, ⟨ac90, [.cell 12 5 true], 88, false⟩, cf90⟩,
  ⟨80, ⟨ac80, [.tmp 2], 7, false⟩, cf80⟩,
  ⟨91, ⟨ac91, [.cell 4 3 true], 9, false⟩, cf91⟩,
  ⟨92, ⟨ac92, [.cell 6 2 true], 14, false⟩, cf92⟩,
  ⟨93, ⟨ac93, [.cell 4 2 true], 9, false⟩, cf93⟩,
  ⟨32, ⟨ac32, [.cell 0 5 true], 2, false⟩, cf32⟩,
  ⟨7, ⟨ac7, [.tmp 0], 36, false⟩, cf7⟩]
def fns : Fns := fnsOf tbl
theorem fnsOk : FnsOk Try.prog fns := fnsOf_ok tbl
end Go.Proofs.Ytpjadhjjeafffaa.OfExactFixRewriter
