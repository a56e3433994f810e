/- The code of the functions, checked against the loaded program; printed by a program (gen2.py). -/
import Derived.Test.YtlolldjkahkbfaaProg
import Derived.Test.YtlolldjkahkbfaaAw25
import Derived.Test.YtlolldjkahkbfaaG0
set_option linter.unusedVariables false
set_option maxRecDepth 100000
namespace Go.Proofs.Ytlolldjkahkbfaa
open Aw

/-- The checked code of laws markChoices. -/
def ac_laws_markChoices : AC := (.seq (.post (.reg [⟨(some 2), .op (.box false (.tmp 0)), none⟩,
    ⟨(some 4), .op (.mv (.const (Value.int .i64 0))), none⟩]) (.kill [0, 4]))
  (.seq (.post (.reg [⟨(some 5), .op (.faddr (.tmp 2) 1), none⟩,
    ⟨(some 6), .op (.load 1 false (.tmp 5)), none⟩,
    ⟨(some 7), .op (.mv (.tmp 1)), none⟩,
    ⟨(some 8), .call (.func i_laws_markInt64S) [(.tmp 6), (.tmp 7)], none⟩,
    ⟨(some 1), .op (.mv (.tmp 8)), none⟩]) (.kill [5, 6, 7, 8]))
  (.seq (.post (.reg [⟨(some 9), .op (.faddr (.tmp 2) 2), none⟩,
    ⟨(some 10), .op (.load 1 false (.tmp 9)), none⟩,
    ⟨(some 11), .op (.mv (.tmp 1)), none⟩,
    ⟨(some 12), .call (.func i_laws_markBoolS) [(.tmp 10), (.tmp 11)], none⟩,
    ⟨(some 1), .op (.mv (.tmp 12)), none⟩]) (.kill [9, 10, 11, 12]))
  (.seq (.post (.reg [⟨(some 13), .op (.faddr (.tmp 2) 3), none⟩,
    ⟨(some 14), .op (.load 1 false (.tmp 13)), none⟩,
    ⟨(some 15), .op (.mv (.tmp 1)), none⟩,
    ⟨(some 16), .call (.func i_laws_markPushSSS) [(.tmp 14), (.tmp 15)], none⟩,
    ⟨(some 1), .op (.mv (.tmp 16)), none⟩]) (.kill [13, 14, 15, 16]))
  (.seq (.post (.reg [⟨(some 17), .op (.faddr (.tmp 2) 4), none⟩,
    ⟨(some 18), .op (.load 1 false (.tmp 17)), none⟩,
    ⟨(some 19), .op (.mv (.tmp 1)), none⟩,
    ⟨(some 20), .call (.func i_laws_markInt64SSSS) [(.tmp 18), (.tmp 19)], none⟩,
    ⟨(some 1), .op (.mv (.tmp 20)), none⟩]) (.kill [17, 18, 19, 20]))
  (.seq (.post (.reg [⟨(some 21), .op (.faddr (.tmp 2) 5), none⟩,
    ⟨(some 22), .op (.load 1 false (.tmp 21)), none⟩,
    ⟨(some 23), .op (.mv (.tmp 1)), none⟩,
    ⟨(some 24), .call (.func i_laws_markInt64SSS) [(.tmp 22), (.tmp 23)], none⟩,
    ⟨(some 1), .op (.mv (.tmp 24)), none⟩]) (.kill [2, 21, 22, 23, 24]))
  (.seq (.post (.reg [⟨(some 25), .op (.mv (.tmp 1)), none⟩,
    ⟨(some 4), .op (.mv (.tmp 25)), none⟩]) (.kill [1, 25]))
  .ret)))))))
theorem cf_laws_markChoices : chkFn Try.prog i_laws_markChoices ac_laws_markChoices [.tmp 4] 26 = true := by decide +kernel
def fa_laws_markChoices : FnA := ⟨ac_laws_markChoices, [.tmp 4], 26, true, false, [], .any, none⟩

/-- The checked code of laws heldInt64S. -/
def lb_laws_heldInt64S_0 : AC := (.seq (.seq (.post (.reg [⟨(some 6), .op (.mv (.tmp 5)), none⟩,
    ⟨(some 7), .op (.mv (.tmp 0)), none⟩,
    ⟨(some 8), .op (.len false (.tmp 7)), none⟩,
    ⟨(some 9), .op (.bin .lss (.tmp 6) (.tmp 8)), none⟩]) (.kill [6, 7, 8]))
  (.cond (.tmp 9) (.ghost (.kill [9]) .skip)
  (.ghost (.kill [0, 5, 9]) (.exit 0))))
  (.seq (.block 1 (.seq (.seq (.post (.reg [⟨(some 12), .op (.mv (.tmp 0)), none⟩,
    ⟨(some 13), .op (.mv (.tmp 5)), none⟩,
    ⟨(some 14), .op (.iaddrS (.tmp 12) (.tmp 13) 1), none⟩,
    ⟨(some 15), .op (.load 1 false (.tmp 14)), none⟩,
    ⟨(some 16), .op (.mv (.tmp 1)), none⟩,
    ⟨(some 17), .op (.bin .neq (.tmp 15) (.tmp 16)), none⟩]) (.kill [12, 13, 14, 15, 16]))
  (.cond (.tmp 17) (.ghost (.kill [0, 1, 5, 17]) (.seq (.reg [⟨(some 4), .op (.mv (.const (Value.int .i64 (-1)))), none⟩])
  .ret))
  (.ghost (.kill [17]) .skip)))
  (.post (.reg [⟨(some 18), .op (.mv (.tmp 1)), none⟩,
    ⟨(some 19), .op (.bin .add (.tmp 18) (.const (Value.int .i64 1))), none⟩,
    ⟨(some 1), .op (.mv (.tmp 19)), none⟩]) (.kill [18, 19]))))
  (.post (.reg [⟨(some 10), .op (.mv (.tmp 5)), none⟩,
    ⟨(some 11), .op (.bin .add (.tmp 10) (.const (Value.int .i64 1))), none⟩,
    ⟨(some 5), .op (.mv (.tmp 11)), none⟩]) (.kill [10, 11]))))
def lo_laws_heldInt64S_0 : AC := (.loop lb_laws_heldInt64S_0)
def ac_laws_heldInt64S : AC := (.seq (.post (.reg [⟨(some 4), .op (.mv (.const (Value.int .i64 0))), none⟩]) (.kill [4]))
  (.seq (.seq (.reg [⟨(some 5), .op (.mv (.const (Value.int .i64 0))), none⟩])
  (.block 0 lo_laws_heldInt64S_0))
  (.ghost (.kill [0, 5]) (.seq (.post (.reg [⟨(some 20), .op (.mv (.tmp 1)), none⟩,
    ⟨(some 4), .op (.mv (.tmp 20)), none⟩]) (.kill [1, 20]))
  .ret))))
theorem cf_laws_heldInt64S : chkFn Try.prog i_laws_heldInt64S ac_laws_heldInt64S [.tmp 4] 21 = true := by decide +kernel
def fa_laws_heldInt64S : FnA := ⟨ac_laws_heldInt64S, [.tmp 4], 21, false, true, [(.lst 1 .any), .any], .any, none⟩

/-- The checked code of laws heldBoolS. -/
def lb_laws_heldBoolS_0 : AC := (.seq (.seq (.post (.reg [⟨(some 6), .op (.mv (.tmp 5)), none⟩,
    ⟨(some 7), .op (.mv (.tmp 0)), none⟩,
    ⟨(some 8), .op (.len false (.tmp 7)), none⟩,
    ⟨(some 9), .op (.bin .lss (.tmp 6) (.tmp 8)), none⟩]) (.kill [6, 7, 8]))
  (.cond (.tmp 9) (.ghost (.kill [9]) .skip)
  (.ghost (.kill [0, 5, 9]) (.exit 0))))
  (.seq (.block 1 (.seq (.seq (.post (.reg [⟨(some 12), .op (.mv (.tmp 0)), none⟩,
    ⟨(some 13), .op (.mv (.tmp 5)), none⟩,
    ⟨(some 14), .op (.iaddrS (.tmp 12) (.tmp 13) 1), none⟩,
    ⟨(some 15), .op (.load 1 false (.tmp 14)), none⟩,
    ⟨(some 16), .op (.mv (.tmp 1)), none⟩,
    ⟨(some 17), .op (.bin .rem (.tmp 16) (.const (Value.int .i64 3))), none⟩,
    ⟨(some 18), .op (.bin .eql (.tmp 17) (.const (Value.int .i64 0))), none⟩,
    ⟨(some 19), .op (.eqb true (.tmp 15) (.tmp 18)), none⟩]) (.kill [12, 13, 14, 15, 16, 17, 18]))
  (.cond (.tmp 19) (.ghost (.kill [0, 1, 5, 19]) (.seq (.reg [⟨(some 4), .op (.mv (.const (Value.int .i64 (-1)))), none⟩])
  .ret))
  (.ghost (.kill [19]) .skip)))
  (.post (.reg [⟨(some 20), .op (.mv (.tmp 1)), none⟩,
    ⟨(some 21), .op (.bin .add (.tmp 20) (.const (Value.int .i64 1))), none⟩,
    ⟨(some 1), .op (.mv (.tmp 21)), none⟩]) (.kill [20, 21]))))
  (.post (.reg [⟨(some 10), .op (.mv (.tmp 5)), none⟩,
    ⟨(some 11), .op (.bin .add (.tmp 10) (.const (Value.int .i64 1))), none⟩,
    ⟨(some 5), .op (.mv (.tmp 11)), none⟩]) (.kill [10, 11]))))
def lo_laws_heldBoolS_0 : AC := (.loop lb_laws_heldBoolS_0)
def ac_laws_heldBoolS : AC := (.seq (.post (.reg [⟨(some 4), .op (.mv (.const (Value.int .i64 0))), none⟩]) (.kill [4]))
  (.seq (.seq (.reg [⟨(some 5), .op (.mv (.const (Value.int .i64 0))), none⟩])
  (.block 0 lo_laws_heldBoolS_0))
  (.ghost (.kill [0, 5]) (.seq (.post (.reg [⟨(some 22), .op (.mv (.tmp 1)), none⟩,
    ⟨(some 4), .op (.mv (.tmp 22)), none⟩]) (.kill [1, 22]))
  .ret))))
theorem cf_laws_heldBoolS : chkFn Try.prog i_laws_heldBoolS ac_laws_heldBoolS [.tmp 4] 23 = true := by decide +kernel
def fa_laws_heldBoolS : FnA := ⟨ac_laws_heldBoolS, [.tmp 4], 23, false, true, [], .any, none⟩

/-- The checked code of laws heldPushS. -/
def lb_laws_heldPushS_0 : AC := (.seq (.seq (.post (.reg [⟨(some 6), .op (.mv (.tmp 5)), none⟩,
    ⟨(some 7), .op (.mv (.tmp 0)), none⟩,
    ⟨(some 8), .op (.len false (.tmp 7)), none⟩,
    ⟨(some 9), .op (.bin .lss (.tmp 6) (.tmp 8)), none⟩]) (.kill [6, 7, 8]))
  (.cond (.tmp 9) (.ghost (.kill [9]) .skip)
  (.ghost (.kill [0, 5, 9]) (.exit 0))))
  (.seq (.block 1 (.seq (.seq (.post (.reg [⟨(some 12), .op (.mv (.tmp 0)), none⟩,
    ⟨(some 13), .op (.mv (.tmp 5)), none⟩,
    ⟨(some 14), .op (.iaddrS (.tmp 12) (.tmp 13) 2), none⟩,
    ⟨(some 15), .op (.faddr (.tmp 14) 0), none⟩,
    ⟨(some 16), .op (.load 1 false (.tmp 15)), none⟩,
    ⟨(some 17), .op (.mv (.tmp 1)), none⟩,
    ⟨(some 18), .op (.bin .neq (.tmp 16) (.tmp 17)), none⟩]) (.kill [12, 13, 14, 15, 16, 17]))
  (.cond (.tmp 18) (.ghost (.kill [0, 1, 5, 18]) (.seq (.reg [⟨(some 4), .op (.mv (.const (Value.int .i64 (-1)))), none⟩])
  .ret))
  (.ghost (.kill [18]) .skip)))
  (.seq (.post (.reg [⟨(some 19), .op (.mv (.tmp 1)), none⟩,
    ⟨(some 20), .op (.bin .add (.tmp 19) (.const (Value.int .i64 1))), none⟩,
    ⟨(some 1), .op (.mv (.tmp 20)), none⟩]) (.kill [19, 20]))
  (.seq (.seq (.post (.reg [⟨(some 21), .op (.mv (.tmp 0)), none⟩,
    ⟨(some 22), .op (.mv (.tmp 5)), none⟩,
    ⟨(some 23), .op (.iaddrS (.tmp 21) (.tmp 22) 2), none⟩,
    ⟨(some 24), .op (.faddr (.tmp 23) 1), none⟩,
    ⟨(some 25), .op (.load 1 false (.tmp 24)), none⟩,
    ⟨(some 26), .op (.mv (.tmp 1)), none⟩,
    ⟨(some 27), .op (.bin .neq (.tmp 25) (.tmp 26)), none⟩]) (.kill [21, 22, 23, 24, 25, 26]))
  (.cond (.tmp 27) (.ghost (.kill [0, 1, 5, 27]) (.seq (.reg [⟨(some 4), .op (.mv (.const (Value.int .i64 (-1)))), none⟩])
  .ret))
  (.ghost (.kill [27]) .skip)))
  (.post (.reg [⟨(some 28), .op (.mv (.tmp 1)), none⟩,
    ⟨(some 29), .op (.bin .add (.tmp 28) (.const (Value.int .i64 1))), none⟩,
    ⟨(some 1), .op (.mv (.tmp 29)), none⟩]) (.kill [28, 29]))))))
  (.post (.reg [⟨(some 10), .op (.mv (.tmp 5)), none⟩,
    ⟨(some 11), .op (.bin .add (.tmp 10) (.const (Value.int .i64 1))), none⟩,
    ⟨(some 5), .op (.mv (.tmp 11)), none⟩]) (.kill [10, 11]))))
def lo_laws_heldPushS_0 : AC := (.loop lb_laws_heldPushS_0)
def ac_laws_heldPushS : AC := (.seq (.post (.reg [⟨(some 4), .op (.mv (.const (Value.int .i64 0))), none⟩]) (.kill [4]))
  (.seq (.seq (.reg [⟨(some 5), .op (.mv (.const (Value.int .i64 0))), none⟩])
  (.block 0 lo_laws_heldPushS_0))
  (.ghost (.kill [0, 5]) (.seq (.post (.reg [⟨(some 30), .op (.mv (.tmp 1)), none⟩,
    ⟨(some 4), .op (.mv (.tmp 30)), none⟩]) (.kill [1, 30]))
  .ret))))
theorem cf_laws_heldPushS : chkFn Try.prog i_laws_heldPushS ac_laws_heldPushS [.tmp 4] 31 = true := by decide +kernel
def fa_laws_heldPushS : FnA := ⟨ac_laws_heldPushS, [.tmp 4], 31, false, true, [], .any, none⟩

/-- The checked code of laws heldPushSS. -/
def lb_laws_heldPushSS_0 : AC := (.seq (.seq (.post (.reg [⟨(some 6), .op (.mv (.tmp 5)), none⟩,
    ⟨(some 7), .op (.mv (.tmp 0)), none⟩,
    ⟨(some 8), .op (.len false (.tmp 7)), none⟩,
    ⟨(some 9), .op (.bin .lss (.tmp 6) (.tmp 8)), none⟩]) (.kill [6, 7, 8]))
  (.cond (.tmp 9) (.ghost (.kill [9]) .skip)
  (.ghost (.kill [0, 5, 9]) (.exit 0))))
  (.seq (.block 1 (.seq (.post (.reg [⟨(some 12), .op (.mv (.tmp 0)), none⟩,
    ⟨(some 13), .op (.mv (.tmp 5)), none⟩,
    ⟨(some 14), .op (.iaddrS (.tmp 12) (.tmp 13) 1), none⟩,
    ⟨(some 15), .op (.load 1 false (.tmp 14)), none⟩,
    ⟨(some 16), .op (.mv (.tmp 1)), none⟩,
    ⟨(some 17), .call (.func i_laws_heldPushS) [(.tmp 15), (.tmp 16)], none⟩,
    ⟨(some 1), .op (.mv (.tmp 17)), none⟩]) (.kill [12, 13, 14, 15, 16, 17]))
  (.seq (.post (.reg [⟨(some 18), .op (.mv (.tmp 1)), none⟩,
    ⟨(some 19), .op (.bin .lss (.tmp 18) (.const (Value.int .i64 0))), none⟩]) (.kill [18]))
  (.cond (.tmp 19) (.ghost (.kill [0, 1, 5, 19]) (.seq (.reg [⟨(some 4), .op (.mv (.const (Value.int .i64 (-1)))), none⟩])
  .ret))
  (.ghost (.kill [19]) .skip)))))
  (.post (.reg [⟨(some 10), .op (.mv (.tmp 5)), none⟩,
    ⟨(some 11), .op (.bin .add (.tmp 10) (.const (Value.int .i64 1))), none⟩,
    ⟨(some 5), .op (.mv (.tmp 11)), none⟩]) (.kill [10, 11]))))
def lo_laws_heldPushSS_0 : AC := (.loop lb_laws_heldPushSS_0)
def ac_laws_heldPushSS : AC := (.seq (.post (.reg [⟨(some 4), .op (.mv (.const (Value.int .i64 0))), none⟩]) (.kill [4]))
  (.seq (.seq (.reg [⟨(some 5), .op (.mv (.const (Value.int .i64 0))), none⟩])
  (.block 0 lo_laws_heldPushSS_0))
  (.ghost (.kill [0, 5]) (.seq (.post (.reg [⟨(some 20), .op (.mv (.tmp 1)), none⟩,
    ⟨(some 4), .op (.mv (.tmp 20)), none⟩]) (.kill [1, 20]))
  .ret))))
theorem cf_laws_heldPushSS : chkFn Try.prog i_laws_heldPushSS ac_laws_heldPushSS [.tmp 4] 21 = true := by decide +kernel
def fa_laws_heldPushSS : FnA := ⟨ac_laws_heldPushSS, [.tmp 4], 21, false, true, [], .any, none⟩

/-- The checked code of laws heldPushSSS. -/
def lb_laws_heldPushSSS_0 : AC := (.seq (.seq (.post (.reg [⟨(some 6), .op (.mv (.tmp 5)), none⟩,
    ⟨(some 7), .op (.mv (.tmp 0)), none⟩,
    ⟨(some 8), .op (.len false (.tmp 7)), none⟩,
    ⟨(some 9), .op (.bin .lss (.tmp 6) (.tmp 8)), none⟩]) (.kill [6, 7, 8]))
  (.cond (.tmp 9) (.ghost (.kill [9]) .skip)
  (.ghost (.kill [0, 5, 9]) (.exit 0))))
  (.seq (.block 1 (.seq (.post (.reg [⟨(some 12), .op (.mv (.tmp 0)), none⟩,
    ⟨(some 13), .op (.mv (.tmp 5)), none⟩,
    ⟨(some 14), .op (.iaddrS (.tmp 12) (.tmp 13) 1), none⟩,
    ⟨(some 15), .op (.load 1 false (.tmp 14)), none⟩,
    ⟨(some 16), .op (.mv (.tmp 1)), none⟩,
    ⟨(some 17), .call (.func i_laws_heldPushSS) [(.tmp 15), (.tmp 16)], none⟩,
    ⟨(some 1), .op (.mv (.tmp 17)), none⟩]) (.kill [12, 13, 14, 15, 16, 17]))
  (.seq (.post (.reg [⟨(some 18), .op (.mv (.tmp 1)), none⟩,
    ⟨(some 19), .op (.bin .lss (.tmp 18) (.const (Value.int .i64 0))), none⟩]) (.kill [18]))
  (.cond (.tmp 19) (.ghost (.kill [0, 1, 5, 19]) (.seq (.reg [⟨(some 4), .op (.mv (.const (Value.int .i64 (-1)))), none⟩])
  .ret))
  (.ghost (.kill [19]) .skip)))))
  (.post (.reg [⟨(some 10), .op (.mv (.tmp 5)), none⟩,
    ⟨(some 11), .op (.bin .add (.tmp 10) (.const (Value.int .i64 1))), none⟩,
    ⟨(some 5), .op (.mv (.tmp 11)), none⟩]) (.kill [10, 11]))))
def lo_laws_heldPushSSS_0 : AC := (.loop lb_laws_heldPushSSS_0)
def ac_laws_heldPushSSS : AC := (.seq (.post (.reg [⟨(some 4), .op (.mv (.const (Value.int .i64 0))), none⟩]) (.kill [4]))
  (.seq (.seq (.reg [⟨(some 5), .op (.mv (.const (Value.int .i64 0))), none⟩])
  (.block 0 lo_laws_heldPushSSS_0))
  (.ghost (.kill [0, 5]) (.seq (.post (.reg [⟨(some 20), .op (.mv (.tmp 1)), none⟩,
    ⟨(some 4), .op (.mv (.tmp 20)), none⟩]) (.kill [1, 20]))
  .ret))))
theorem cf_laws_heldPushSSS : chkFn Try.prog i_laws_heldPushSSS ac_laws_heldPushSSS [.tmp 4] 21 = true := by decide +kernel
def fa_laws_heldPushSSS : FnA := ⟨ac_laws_heldPushSSS, [.tmp 4], 21, false, true, [], .any, none⟩

/-- The checked code of laws heldInt64SS. -/
def lb_laws_heldInt64SS_0 : AC := (.seq (.seq (.post (.reg [⟨(some 6), .op (.mv (.tmp 5)), none⟩,
    ⟨(some 7), .op (.mv (.tmp 0)), none⟩,
    ⟨(some 8), .op (.len false (.tmp 7)), none⟩,
    ⟨(some 9), .op (.bin .lss (.tmp 6) (.tmp 8)), none⟩]) (.kill [6, 7, 8]))
  (.cond (.tmp 9) (.ghost (.kill [9]) .skip)
  (.ghost (.kill [0, 5, 9]) (.exit 0))))
  (.seq (.block 1 (.seq (.post (.reg [⟨(some 12), .op (.mv (.tmp 0)), none⟩,
    ⟨(some 13), .op (.mv (.tmp 5)), none⟩,
    ⟨(some 14), .op (.iaddrS (.tmp 12) (.tmp 13) 1), none⟩,
    ⟨(some 15), .op (.load 1 false (.tmp 14)), none⟩,
    ⟨(some 16), .op (.mv (.tmp 1)), none⟩,
    ⟨(some 17), .call (.func i_laws_heldInt64S) [(.tmp 15), (.tmp 16)], none⟩,
    ⟨(some 1), .op (.mv (.tmp 17)), none⟩]) (.kill [12, 13, 14, 15, 16, 17]))
  (.seq (.post (.reg [⟨(some 18), .op (.mv (.tmp 1)), none⟩,
    ⟨(some 19), .op (.bin .lss (.tmp 18) (.const (Value.int .i64 0))), none⟩]) (.kill [18]))
  (.cond (.tmp 19) (.ghost (.kill [0, 1, 5, 19]) (.seq (.reg [⟨(some 4), .op (.mv (.const (Value.int .i64 (-1)))), none⟩])
  .ret))
  (.ghost (.kill [19]) .skip)))))
  (.post (.reg [⟨(some 10), .op (.mv (.tmp 5)), none⟩,
    ⟨(some 11), .op (.bin .add (.tmp 10) (.const (Value.int .i64 1))), none⟩,
    ⟨(some 5), .op (.mv (.tmp 11)), none⟩]) (.kill [10, 11]))))
def lo_laws_heldInt64SS_0 : AC := (.loop lb_laws_heldInt64SS_0)
def ac_laws_heldInt64SS : AC := (.seq (.post (.reg [⟨(some 4), .op (.mv (.const (Value.int .i64 0))), none⟩]) (.kill [4]))
  (.seq (.seq (.reg [⟨(some 5), .op (.mv (.const (Value.int .i64 0))), none⟩])
  (.block 0 lo_laws_heldInt64SS_0))
  (.ghost (.kill [0, 5]) (.seq (.post (.reg [⟨(some 20), .op (.mv (.tmp 1)), none⟩,
    ⟨(some 4), .op (.mv (.tmp 20)), none⟩]) (.kill [1, 20]))
  .ret))))
theorem cf_laws_heldInt64SS : chkFn Try.prog i_laws_heldInt64SS ac_laws_heldInt64SS [.tmp 4] 21 = true := by decide +kernel
def fa_laws_heldInt64SS : FnA := ⟨ac_laws_heldInt64SS, [.tmp 4], 21, false, true, [(.lst 1 (.lst 1 .any)), .any], .any, none⟩

/-- The checked code of laws heldInt64SSS. -/
def lb_laws_heldInt64SSS_0 : AC := (.seq (.seq (.post (.reg [⟨(some 6), .op (.mv (.tmp 5)), none⟩,
    ⟨(some 7), .op (.mv (.tmp 0)), none⟩,
    ⟨(some 8), .op (.len false (.tmp 7)), none⟩,
    ⟨(some 9), .op (.bin .lss (.tmp 6) (.tmp 8)), none⟩]) (.kill [6, 7, 8]))
  (.cond (.tmp 9) (.ghost (.kill [9]) .skip)
  (.ghost (.kill [0, 5, 9]) (.exit 0))))
  (.seq (.block 1 (.seq (.post (.reg [⟨(some 12), .op (.mv (.tmp 0)), none⟩,
    ⟨(some 13), .op (.mv (.tmp 5)), none⟩,
    ⟨(some 14), .op (.iaddrS (.tmp 12) (.tmp 13) 1), none⟩,
    ⟨(some 15), .op (.load 1 false (.tmp 14)), none⟩,
    ⟨(some 16), .op (.mv (.tmp 1)), none⟩,
    ⟨(some 17), .call (.func i_laws_heldInt64SS) [(.tmp 15), (.tmp 16)], none⟩,
    ⟨(some 1), .op (.mv (.tmp 17)), none⟩]) (.kill [12, 13, 14, 15, 16, 17]))
  (.seq (.post (.reg [⟨(some 18), .op (.mv (.tmp 1)), none⟩,
    ⟨(some 19), .op (.bin .lss (.tmp 18) (.const (Value.int .i64 0))), none⟩]) (.kill [18]))
  (.cond (.tmp 19) (.ghost (.kill [0, 1, 5, 19]) (.seq (.reg [⟨(some 4), .op (.mv (.const (Value.int .i64 (-1)))), none⟩])
  .ret))
  (.ghost (.kill [19]) .skip)))))
  (.post (.reg [⟨(some 10), .op (.mv (.tmp 5)), none⟩,
    ⟨(some 11), .op (.bin .add (.tmp 10) (.const (Value.int .i64 1))), none⟩,
    ⟨(some 5), .op (.mv (.tmp 11)), none⟩]) (.kill [10, 11]))))
def lo_laws_heldInt64SSS_0 : AC := (.loop lb_laws_heldInt64SSS_0)
def ac_laws_heldInt64SSS : AC := (.seq (.post (.reg [⟨(some 4), .op (.mv (.const (Value.int .i64 0))), none⟩]) (.kill [4]))
  (.seq (.seq (.reg [⟨(some 5), .op (.mv (.const (Value.int .i64 0))), none⟩])
  (.block 0 lo_laws_heldInt64SSS_0))
  (.ghost (.kill [0, 5]) (.seq (.post (.reg [⟨(some 20), .op (.mv (.tmp 1)), none⟩,
    ⟨(some 4), .op (.mv (.tmp 20)), none⟩]) (.kill [1, 20]))
  .ret))))
theorem cf_laws_heldInt64SSS : chkFn Try.prog i_laws_heldInt64SSS ac_laws_heldInt64SSS [.tmp 4] 21 = true := by decide +kernel
def fa_laws_heldInt64SSS : FnA := ⟨ac_laws_heldInt64SSS, [.tmp 4], 21, false, true, [], .any, none⟩

/-- The checked code of laws heldInt64SSSS. -/
def lb_laws_heldInt64SSSS_0 : AC := (.seq (.seq (.post (.reg [⟨(some 6), .op (.mv (.tmp 5)), none⟩,
    ⟨(some 7), .op (.mv (.tmp 0)), none⟩,
    ⟨(some 8), .op (.len false (.tmp 7)), none⟩,
    ⟨(some 9), .op (.bin .lss (.tmp 6) (.tmp 8)), none⟩]) (.kill [6, 7, 8]))
  (.cond (.tmp 9) (.ghost (.kill [9]) .skip)
  (.ghost (.kill [0, 5, 9]) (.exit 0))))
  (.seq (.block 1 (.seq (.post (.reg [⟨(some 12), .op (.mv (.tmp 0)), none⟩,
    ⟨(some 13), .op (.mv (.tmp 5)), none⟩,
    ⟨(some 14), .op (.iaddrS (.tmp 12) (.tmp 13) 1), none⟩,
    ⟨(some 15), .op (.load 1 false (.tmp 14)), none⟩,
    ⟨(some 16), .op (.mv (.tmp 1)), none⟩,
    ⟨(some 17), .call (.func i_laws_heldInt64SSS) [(.tmp 15), (.tmp 16)], none⟩,
    ⟨(some 1), .op (.mv (.tmp 17)), none⟩]) (.kill [12, 13, 14, 15, 16, 17]))
  (.seq (.post (.reg [⟨(some 18), .op (.mv (.tmp 1)), none⟩,
    ⟨(some 19), .op (.bin .lss (.tmp 18) (.const (Value.int .i64 0))), none⟩]) (.kill [18]))
  (.cond (.tmp 19) (.ghost (.kill [0, 1, 5, 19]) (.seq (.reg [⟨(some 4), .op (.mv (.const (Value.int .i64 (-1)))), none⟩])
  .ret))
  (.ghost (.kill [19]) .skip)))))
  (.post (.reg [⟨(some 10), .op (.mv (.tmp 5)), none⟩,
    ⟨(some 11), .op (.bin .add (.tmp 10) (.const (Value.int .i64 1))), none⟩,
    ⟨(some 5), .op (.mv (.tmp 11)), none⟩]) (.kill [10, 11]))))
def lo_laws_heldInt64SSSS_0 : AC := (.loop lb_laws_heldInt64SSSS_0)
def ac_laws_heldInt64SSSS : AC := (.seq (.post (.reg [⟨(some 4), .op (.mv (.const (Value.int .i64 0))), none⟩]) (.kill [4]))
  (.seq (.seq (.reg [⟨(some 5), .op (.mv (.const (Value.int .i64 0))), none⟩])
  (.block 0 lo_laws_heldInt64SSSS_0))
  (.ghost (.kill [0, 5]) (.seq (.post (.reg [⟨(some 20), .op (.mv (.tmp 1)), none⟩,
    ⟨(some 4), .op (.mv (.tmp 20)), none⟩]) (.kill [1, 20]))
  .ret))))
theorem cf_laws_heldInt64SSSS : chkFn Try.prog i_laws_heldInt64SSSS ac_laws_heldInt64SSSS [.tmp 4] 21 = true := by decide +kernel
def fa_laws_heldInt64SSSS : FnA := ⟨ac_laws_heldInt64SSSS, [.tmp 4], 21, false, true, [], .any, none⟩

/-- The checked code of laws heldChoices. -/
def ac_laws_heldChoices : AC := (.seq (.post (.reg [⟨(some 2), .op (.box true (.tmp 0)), none⟩,
    ⟨(some 4), .op (.mv (.const (Value.int .i64 0))), none⟩]) (.kill [0, 4]))
  (.seq (.post (.reg [⟨(some 5), .op (.faddr (.tmp 2) 1), none⟩,
    ⟨(some 6), .op (.load 1 false (.tmp 5)), none⟩,
    ⟨(some 7), .op (.mv (.tmp 1)), none⟩,
    ⟨(some 8), .call (.func i_laws_heldInt64S) [(.tmp 6), (.tmp 7)], none⟩,
    ⟨(some 1), .op (.mv (.tmp 8)), none⟩]) (.kill [5, 6, 7, 8]))
  (.seq (.seq (.post (.reg [⟨(some 9), .op (.mv (.tmp 1)), none⟩,
    ⟨(some 10), .op (.bin .lss (.tmp 9) (.const (Value.int .i64 0))), none⟩]) (.kill [9]))
  (.cond (.tmp 10) (.ghost (.kill [1, 2, 10]) (.seq (.reg [⟨(some 4), .op (.mv (.const (Value.int .i64 (-1)))), none⟩])
  .ret))
  (.ghost (.kill [10]) .skip)))
  (.seq (.post (.reg [⟨(some 11), .op (.faddr (.tmp 2) 2), none⟩,
    ⟨(some 12), .op (.load 1 false (.tmp 11)), none⟩,
    ⟨(some 13), .op (.mv (.tmp 1)), none⟩,
    ⟨(some 14), .call (.func i_laws_heldBoolS) [(.tmp 12), (.tmp 13)], none⟩,
    ⟨(some 1), .op (.mv (.tmp 14)), none⟩]) (.kill [11, 12, 13, 14]))
  (.seq (.seq (.post (.reg [⟨(some 15), .op (.mv (.tmp 1)), none⟩,
    ⟨(some 16), .op (.bin .lss (.tmp 15) (.const (Value.int .i64 0))), none⟩]) (.kill [15]))
  (.cond (.tmp 16) (.ghost (.kill [1, 2, 16]) (.seq (.reg [⟨(some 4), .op (.mv (.const (Value.int .i64 (-1)))), none⟩])
  .ret))
  (.ghost (.kill [16]) .skip)))
  (.seq (.post (.reg [⟨(some 17), .op (.faddr (.tmp 2) 3), none⟩,
    ⟨(some 18), .op (.load 1 false (.tmp 17)), none⟩,
    ⟨(some 19), .op (.mv (.tmp 1)), none⟩,
    ⟨(some 20), .call (.func i_laws_heldPushSSS) [(.tmp 18), (.tmp 19)], none⟩,
    ⟨(some 1), .op (.mv (.tmp 20)), none⟩]) (.kill [17, 18, 19, 20]))
  (.seq (.seq (.post (.reg [⟨(some 21), .op (.mv (.tmp 1)), none⟩,
    ⟨(some 22), .op (.bin .lss (.tmp 21) (.const (Value.int .i64 0))), none⟩]) (.kill [21]))
  (.cond (.tmp 22) (.ghost (.kill [1, 2, 22]) (.seq (.reg [⟨(some 4), .op (.mv (.const (Value.int .i64 (-1)))), none⟩])
  .ret))
  (.ghost (.kill [22]) .skip)))
  (.seq (.post (.reg [⟨(some 23), .op (.faddr (.tmp 2) 4), none⟩,
    ⟨(some 24), .op (.load 1 false (.tmp 23)), none⟩,
    ⟨(some 25), .op (.mv (.tmp 1)), none⟩,
    ⟨(some 26), .call (.func i_laws_heldInt64SSSS) [(.tmp 24), (.tmp 25)], none⟩,
    ⟨(some 1), .op (.mv (.tmp 26)), none⟩]) (.kill [23, 24, 25, 26]))
  (.seq (.seq (.post (.reg [⟨(some 27), .op (.mv (.tmp 1)), none⟩,
    ⟨(some 28), .op (.bin .lss (.tmp 27) (.const (Value.int .i64 0))), none⟩]) (.kill [27]))
  (.cond (.tmp 28) (.ghost (.kill [1, 2, 28]) (.seq (.reg [⟨(some 4), .op (.mv (.const (Value.int .i64 (-1)))), none⟩])
  .ret))
  (.ghost (.kill [28]) .skip)))
  (.seq (.post (.reg [⟨(some 29), .op (.faddr (.tmp 2) 5), none⟩,
    ⟨(some 30), .op (.load 1 false (.tmp 29)), none⟩,
    ⟨(some 31), .op (.mv (.tmp 1)), none⟩,
    ⟨(some 32), .call (.func i_laws_heldInt64SSS) [(.tmp 30), (.tmp 31)], none⟩,
    ⟨(some 1), .op (.mv (.tmp 32)), none⟩]) (.kill [2, 29, 30, 31, 32]))
  (.seq (.seq (.post (.reg [⟨(some 33), .op (.mv (.tmp 1)), none⟩,
    ⟨(some 34), .op (.bin .lss (.tmp 33) (.const (Value.int .i64 0))), none⟩]) (.kill [33]))
  (.cond (.tmp 34) (.ghost (.kill [1, 34]) (.seq (.reg [⟨(some 4), .op (.mv (.const (Value.int .i64 (-1)))), none⟩])
  .ret))
  (.ghost (.kill [34]) .skip)))
  (.seq (.post (.reg [⟨(some 35), .op (.mv (.tmp 1)), none⟩,
    ⟨(some 4), .op (.mv (.tmp 35)), none⟩]) (.kill [1, 35]))
  .ret))))))))))))
theorem cf_laws_heldChoices : chkFn Try.prog i_laws_heldChoices ac_laws_heldChoices [.tmp 4] 36 = true := by decide +kernel
def fa_laws_heldChoices : FnA := ⟨ac_laws_heldChoices, [.tmp 4], 36, false, true, [(.agg [.any, (.lst 1 .any), (.lst 1 .any), (.lst 1 (.lst 1 (.lst 2 .any))), (.lst 1 (.lst 1 (.lst 1 (.lst 1 .any)))), (.lst 1 (.lst 1 (.lst 1 .any)))]), .any], .any, none⟩

/-- The checked code of laws FnExactEitherChoices. -/
def ac_laws_FnExactEitherChoices : AC := (.seq (.post (.reg [⟨(some 2), .op (.box true (.tmp 0)), none⟩,
    ⟨(some 3), .op (.box true (.tmp 1)), none⟩,
    ⟨(some 4), .op (.mv (.const (Value.bool false))), none⟩]) (.kill [0, 1, 4]))
  (.seq (.reg [⟨(some 5), .op (.mv (.const (Value.int .i64 1048576))), none⟩])
  (.seq (.post (.reg [⟨(some 17), .op (.load 6 true (.tmp 2)), none⟩,
    ⟨(some 18), .op (.mv (.tmp 5)), none⟩,
    ⟨(some 19), .call (.func i_laws_szChoices) [(.tmp 17), (.tmp 18)], none⟩,
    ⟨(some 5), .op (.mv (.tmp 19)), none⟩]) (.kill [17, 18, 19]))
  (.seq (.seq (.post (.reg [⟨(some 20), .op (.mv (.tmp 5)), none⟩,
    ⟨(some 21), .op (.bin .lss (.tmp 20) (.const (Value.int .i64 0))), none⟩]) (.kill [20]))
  (.cond (.tmp 21) (.ghost (.kill [2, 3, 5, 21]) (.seq (.reg [⟨(some 4), .op (.mv (.const (Value.bool true))), none⟩])
  .ret))
  (.ghost (.kill [21]) .skip)))
  (.seq (.post (.reg [⟨(some 22), .op (.load 6 true (.tmp 3)), none⟩,
    ⟨(some 23), .op (.mv (.tmp 5)), none⟩,
    ⟨(some 24), .call (.func i_laws_szChoices) [(.tmp 22), (.tmp 23)], none⟩,
    ⟨(some 5), .op (.mv (.tmp 24)), none⟩]) (.kill [22, 23, 24]))
  (.seq (.seq (.post (.reg [⟨(some 25), .op (.mv (.tmp 5)), none⟩,
    ⟨(some 26), .op (.bin .lss (.tmp 25) (.const (Value.int .i64 0))), none⟩]) (.kill [5, 25]))
  (.cond (.tmp 26) (.ghost (.kill [2, 3, 26]) (.seq (.reg [⟨(some 4), .op (.mv (.const (Value.bool true))), none⟩])
  .ret))
  (.ghost (.kill [26]) .skip)))
  (.seq (.post (.draw [⟨0, ⟨(some 28), .op (.load 6 true (.tmp 2)), none⟩, []⟩,
    ⟨1, ⟨(some 29), .call (.func i_laws_toChoices) [(.tmp 28)] true, none⟩, []⟩,
    ⟨2, ⟨(some 30), .op (.load 6 true (.tmp 3)), none⟩, []⟩,
    ⟨3, ⟨(some 31), .call (.func i_laws_toChoices) [(.tmp 30)] true, none⟩, []⟩,
    ⟨4, ⟨(some 32), .call (.func i_spec_EitherChoices) [(.tmp 29), (.tmp 31)], none⟩, []⟩,
    ⟨5, ⟨(some 27), .op (.mv (.tmp 32)), none⟩, []⟩,
    ⟨6, ⟨(some 33), .op (.ext (.tmp 27) 0), none⟩, []⟩,
    ⟨7, ⟨(some 34), .op (.ext (.tmp 27) 1), none⟩, []⟩,
    ⟨8, ⟨(some 6), .op (.alloc (Value.agg #[Value.int .i64 0, Value.slice none 0 0, Value.slice none 0 0, Value.slice none 0 0, Value.slice none 0 0, Value.slice none 0 0])), none⟩, [0, 2]⟩,
    ⟨9, ⟨none, .op (.store 6 (.tmp 6) (.tmp 33)), none⟩, []⟩,
    ⟨10, ⟨(some 7), .op (.mv (.tmp 34)), none⟩, []⟩]
    [0, 1, 0, 7, 15, 31, 63, 63, 0, 383, 1023]) (.kill [27, 28, 29, 30, 31, 32, 33, 34]))
  (.seq (.post (.reg [⟨(some 35), .op (.load 6 true (.tmp 2)), none⟩,
    ⟨(some 36), .call (.func i_laws_toChoices) [(.tmp 35)], none⟩,
    ⟨(some 8), .op (.alloc (Value.agg #[Value.int .i64 0, Value.slice none 0 0, Value.slice none 0 0, Value.slice none 0 0, Value.slice none 0 0, Value.slice none 0 0])), none⟩,
    ⟨none, .op (.store 6 (.tmp 8) (.tmp 36)), none⟩]) (.kill [35, 36]))
  (.seq (.post (.reg [⟨(some 37), .op (.load 6 true (.tmp 3)), none⟩,
    ⟨(some 38), .call (.func i_laws_toChoices) [(.tmp 37)], none⟩,
    ⟨(some 9), .op (.alloc (Value.agg #[Value.int .i64 0, Value.slice none 0 0, Value.slice none 0 0, Value.slice none 0 0, Value.slice none 0 0, Value.slice none 0 0])), none⟩,
    ⟨none, .op (.store 6 (.tmp 9) (.tmp 38)), none⟩]) (.kill [37, 38]))
  (.seq (.post (.reg [⟨(some 40), .op (.load 6 true (.tmp 8)), none⟩,
    ⟨(some 41), .op (.load 6 true (.tmp 9)), none⟩,
    ⟨(some 42), .call (.func i_impl_EitherChoices) [(.tmp 40), (.tmp 41)], none⟩,
    ⟨(some 39), .op (.mv (.tmp 42)), none⟩,
    ⟨(some 43), .op (.ext (.tmp 39) 0), none⟩,
    ⟨(some 44), .op (.ext (.tmp 39) 1), none⟩,
    ⟨(some 10), .op (.alloc (Value.agg #[Value.int .i64 0, Value.slice none 0 0, Value.slice none 0 0, Value.slice none 0 0, Value.slice none 0 0, Value.slice none 0 0])), none⟩,
    ⟨none, .op (.store 6 (.tmp 10) (.tmp 43)), none⟩,
    ⟨(some 11), .op (.mv (.tmp 44)), none⟩]) (.kill [39, 40, 41, 42, 43, 44]))
  (.seq (.seq (.post (.reg [⟨(some 45), .op (.load 6 true (.tmp 10)), none⟩,
    ⟨(some 46), .op (.load 6 true (.tmp 6)), none⟩,
    ⟨(some 47), .call (.func i_laws_eqChoices) [(.tmp 45), (.tmp 46)], none⟩,
    ⟨(some 48), .op (.un .not (.tmp 47)), none⟩,
    ⟨(some 49), .op (.mv (.tmp 48)), none⟩,
    ⟨(some 50), .op (.mv (.tmp 11)), some (49, false)⟩,
    ⟨(some 51), .op (.mv (.tmp 7)), some (49, false)⟩,
    ⟨(some 52), .op (.bin .neq (.tmp 50) (.tmp 51)), some (49, false)⟩,
    ⟨(some 53), .op (.pick (.tmp 49) (.const (Value.bool true)) (.tmp 52)), none⟩]) (.kill [45, 46, 47, 48, 49, 50, 51, 52]))
  (.cond (.tmp 53) (.ghost (.kill [2, 3, 6, 7, 8, 9, 10, 11, 53]) (.seq (.reg [⟨(some 4), .op (.mv (.const (Value.bool false))), none⟩])
  .ret))
  (.ghost (.kill [53]) .skip)))
  (.seq (.seq (.post (.draw [⟨0, ⟨(some 54), .op (.load 6 true (.tmp 8)), none⟩, []⟩,
    ⟨1, ⟨(some 55), .op (.load 6 true (.tmp 2)), none⟩, []⟩,
    ⟨2, ⟨(some 56), .call (.func i_laws_toChoices) [(.tmp 55)], none⟩, [0]⟩,
    ⟨3, ⟨(some 57), .call (.func i_laws_eqChoices) [(.tmp 54), (.tmp 56)], none⟩, []⟩,
    ⟨4, ⟨(some 58), .op (.un .not (.tmp 57)), none⟩, []⟩]
    [0, 0, 2, 7, 15]) (.kill [54, 55, 56, 57]))
  (.cond (.tmp 58) (.ghost (.kill [2, 3, 6, 7, 8, 9, 10, 11, 58]) (.seq (.reg [⟨(some 4), .op (.mv (.const (Value.bool false))), none⟩])
  .ret))
  (.ghost (.kill [58]) .skip)))
  (.seq (.seq (.post (.draw [⟨0, ⟨(some 59), .op (.load 6 true (.tmp 9)), none⟩, []⟩,
    ⟨1, ⟨(some 60), .op (.load 6 true (.tmp 3)), none⟩, []⟩,
    ⟨2, ⟨(some 61), .call (.func i_laws_toChoices) [(.tmp 60)], none⟩, [0]⟩,
    ⟨3, ⟨(some 62), .call (.func i_laws_eqChoices) [(.tmp 59), (.tmp 61)], none⟩, []⟩,
    ⟨4, ⟨(some 63), .op (.un .not (.tmp 62)), none⟩, []⟩]
    [0, 0, 2, 7, 15]) (.kill [59, 60, 61, 62]))
  (.cond (.tmp 63) (.ghost (.kill [2, 3, 6, 7, 8, 9, 10, 11, 63]) (.seq (.reg [⟨(some 4), .op (.mv (.const (Value.bool false))), none⟩])
  .ret))
  (.ghost (.kill [63]) .skip)))
  (.seq (.reg [⟨(some 12), .op (.mv (.const (Value.int .i64 1))), none⟩])
  (.seq (.post (.reg [⟨(some 64), .op (.load 6 true (.tmp 8)), none⟩,
    ⟨(some 65), .op (.mv (.tmp 12)), none⟩,
    ⟨(some 66), .call (.func i_laws_markChoices) [(.tmp 64), (.tmp 65)], none⟩,
    ⟨(some 12), .op (.mv (.tmp 66)), none⟩]) (.kill [8, 64, 65, 66]))
  (.seq (.post (.reg [⟨(some 67), .op (.load 6 true (.tmp 9)), none⟩,
    ⟨(some 68), .op (.mv (.tmp 12)), none⟩,
    ⟨(some 69), .call (.func i_laws_markChoices) [(.tmp 67), (.tmp 68)], none⟩,
    ⟨(some 12), .op (.mv (.tmp 69)), none⟩]) (.kill [9, 67, 68, 69]))
  (.seq (.seq (.post (.reg [⟨(some 70), .op (.mv (.tmp 12)), none⟩,
    ⟨(some 71), .op (.bin .lss (.tmp 70) (.const (Value.int .i64 0))), none⟩,
    ⟨(some 72), .op (.mv (.tmp 71)), none⟩,
    ⟨(some 73), .op (.load 6 true (.tmp 10)), some (72, false)⟩,
    ⟨(some 74), .op (.load 6 true (.tmp 6)), some (72, false)⟩,
    ⟨(some 75), .call (.func i_laws_eqChoices) [(.tmp 73), (.tmp 74)], some (72, false)⟩,
    ⟨(some 76), .op (.un .not (.tmp 75)), some (72, false)⟩,
    ⟨(some 77), .op (.pick (.tmp 72) (.const (Value.bool true)) (.tmp 76)), none⟩,
    ⟨(some 78), .op (.mv (.tmp 77)), none⟩,
    ⟨(some 79), .op (.mv (.tmp 11)), some (78, false)⟩,
    ⟨(some 80), .op (.mv (.tmp 7)), some (78, false)⟩,
    ⟨(some 81), .op (.bin .neq (.tmp 79) (.tmp 80)), some (78, false)⟩,
    ⟨(some 82), .op (.pick (.tmp 78) (.const (Value.bool true)) (.tmp 81)), none⟩]) (.kill [11, 12, 70, 71, 72, 73, 74, 75, 76, 77, 78, 79, 80, 81]))
  (.cond (.tmp 82) (.ghost (.kill [2, 3, 6, 7, 10, 82]) (.seq (.reg [⟨(some 4), .op (.mv (.const (Value.bool false))), none⟩])
  .ret))
  (.ghost (.kill [82]) .skip)))
  (.seq (.reg [⟨(some 13), .op (.mv (.const (Value.int .i64 1))), none⟩])
  (.seq (.post (.reg [⟨(some 83), .op (.load 6 true (.tmp 10)), none⟩,
    ⟨(some 84), .op (.mv (.tmp 13)), none⟩,
    ⟨(some 85), .call (.func i_laws_markChoices) [(.tmp 83), (.tmp 84)], none⟩,
    ⟨(some 13), .op (.mv (.tmp 85)), none⟩]) (.kill [83, 84, 85]))
  (.seq (.reg [⟨(some 14), .op (.mv (.const (Value.int .i64 1))), none⟩])
  (.seq (.post (.reg [⟨(some 86), .op (.load 6 true (.tmp 10)), none⟩,
    ⟨(some 87), .op (.mv (.tmp 14)), none⟩,
    ⟨(some 88), .call (.func i_laws_heldChoices) [(.tmp 86), (.tmp 87)], none⟩,
    ⟨(some 14), .op (.mv (.tmp 88)), none⟩]) (.kill [86, 87, 88]))
  (.seq (.seq (.post (.reg [⟨(some 89), .op (.mv (.tmp 14)), none⟩,
    ⟨(some 90), .op (.bin .lss (.tmp 89) (.const (Value.int .i64 0))), none⟩]) (.kill [89]))
  (.cond (.tmp 90) (.ghost (.kill [2, 3, 6, 7, 10, 13, 14, 90]) (.seq (.reg [⟨(some 4), .op (.mv (.const (Value.bool false))), none⟩])
  .ret))
  (.ghost (.kill [90]) .skip)))
  (.seq (.seq (.post (.reg [⟨(some 91), .op (.mv (.tmp 14)), none⟩,
    ⟨(some 92), .op (.mv (.tmp 13)), none⟩,
    ⟨(some 93), .op (.bin .neq (.tmp 91) (.tmp 92)), none⟩]) (.kill [14, 91, 92]))
  (.cond (.tmp 93) (.ghost (.kill [2, 3, 6, 7, 10, 13, 93]) (.seq (.reg [⟨(some 4), .op (.mv (.const (Value.bool false))), none⟩])
  .ret))
  (.ghost (.kill [93]) .skip)))
  (.seq (.post (.draw [⟨0, ⟨(some 95), .op (.load 6 true (.tmp 2)), none⟩, []⟩,
    ⟨2, ⟨(some 97), .op (.load 6 true (.tmp 3)), none⟩, []⟩,
    ⟨1, ⟨(some 96), .call (.func i_laws_toChoices) [(.tmp 95)], none⟩, [2]⟩,
    ⟨3, ⟨(some 98), .call (.func i_laws_toChoices) [(.tmp 97)], none⟩, []⟩,
    ⟨4, ⟨(some 99), .call (.func i_impl_EitherChoices) [(.tmp 96), (.tmp 98)], none⟩, []⟩,
    ⟨5, ⟨(some 94), .op (.mv (.tmp 99)), none⟩, []⟩,
    ⟨6, ⟨(some 100), .op (.ext (.tmp 94) 0), none⟩, []⟩,
    ⟨7, ⟨(some 101), .op (.ext (.tmp 94) 1), none⟩, []⟩,
    ⟨8, ⟨(some 15), .op (.alloc (Value.agg #[Value.int .i64 0, Value.slice none 0 0, Value.slice none 0 0, Value.slice none 0 0, Value.slice none 0 0, Value.slice none 0 0])), none⟩, [0, 2]⟩,
    ⟨9, ⟨none, .op (.store 6 (.tmp 15) (.tmp 100)), none⟩, []⟩,
    ⟨10, ⟨(some 16), .op (.mv (.tmp 101)), none⟩, []⟩]
    [0, 1, 0, 7, 15, 31, 63, 63, 0, 383, 1023]) (.kill [2, 3, 94, 95, 96, 97, 98, 99, 100, 101]))
  (.seq (.seq (.post (.reg [⟨(some 102), .op (.load 6 true (.tmp 15)), none⟩,
    ⟨(some 103), .op (.load 6 true (.tmp 6)), none⟩,
    ⟨(some 104), .call (.func i_laws_eqChoices) [(.tmp 102), (.tmp 103)], none⟩,
    ⟨(some 105), .op (.un .not (.tmp 104)), none⟩,
    ⟨(some 106), .op (.mv (.tmp 105)), none⟩,
    ⟨(some 107), .op (.mv (.tmp 16)), some (106, false)⟩,
    ⟨(some 108), .op (.mv (.tmp 7)), some (106, false)⟩,
    ⟨(some 109), .op (.bin .neq (.tmp 107) (.tmp 108)), some (106, false)⟩,
    ⟨(some 110), .op (.pick (.tmp 106) (.const (Value.bool true)) (.tmp 109)), none⟩]) (.kill [6, 7, 15, 16, 102, 103, 104, 105, 106, 107, 108, 109]))
  (.cond (.tmp 110) (.ghost (.kill [10, 13, 110]) (.seq (.reg [⟨(some 4), .op (.mv (.const (Value.bool false))), none⟩])
  .ret))
  (.ghost (.kill [110]) .skip)))
  (.seq (.reg [⟨(some 14), .op (.mv (.const (Value.int .i64 1))), none⟩])
  (.seq (.post (.reg [⟨(some 111), .op (.load 6 true (.tmp 10)), none⟩,
    ⟨(some 112), .op (.mv (.tmp 14)), none⟩,
    ⟨(some 113), .call (.func i_laws_heldChoices) [(.tmp 111), (.tmp 112)], none⟩,
    ⟨(some 14), .op (.mv (.tmp 113)), none⟩]) (.kill [10, 111, 112, 113]))
  (.seq (.seq (.post (.reg [⟨(some 114), .op (.mv (.tmp 14)), none⟩,
    ⟨(some 115), .op (.bin .lss (.tmp 114) (.const (Value.int .i64 0))), none⟩]) (.kill [114]))
  (.cond (.tmp 115) (.ghost (.kill [13, 14, 115]) (.seq (.reg [⟨(some 4), .op (.mv (.const (Value.bool false))), none⟩])
  .ret))
  (.ghost (.kill [115]) .skip)))
  (.seq (.seq (.post (.reg [⟨(some 116), .op (.mv (.tmp 14)), none⟩,
    ⟨(some 117), .op (.mv (.tmp 13)), none⟩,
    ⟨(some 118), .op (.bin .neq (.tmp 116) (.tmp 117)), none⟩]) (.kill [13, 14, 116, 117]))
  (.cond (.tmp 118) (.ghost (.kill [118]) (.seq (.reg [⟨(some 4), .op (.mv (.const (Value.bool false))), none⟩])
  .ret))
  (.ghost (.kill [118]) .skip)))
  (.seq (.reg [⟨(some 4), .op (.mv (.const (Value.bool true))), none⟩])
  .ret))))))))))))))))))))))))))))))
theorem cf_laws_FnExactEitherChoices : chkFn Try.prog i_laws_FnExactEitherChoices ac_laws_FnExactEitherChoices [.tmp 4] 119 = true := by decide +kernel
def fa_laws_FnExactEitherChoices : FnA := ⟨ac_laws_FnExactEitherChoices, [.tmp 4], 119, false, true, [], .any, none⟩

end Go.Proofs.Ytlolldjkahkbfaa
