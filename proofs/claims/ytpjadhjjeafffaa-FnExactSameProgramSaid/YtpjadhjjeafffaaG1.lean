/- The code of the functions, checked against the loaded program; printed by a program (gen2.py). -/
import Derived.Test.YtpjadhjjeafffaaProg
import Derived.Test.YtpjadhjjeafffaaAw25
import Derived.Test.YtpjadhjjeafffaaG0
set_option linter.unusedVariables false
set_option maxRecDepth 100000
namespace Go.Proofs.Ytpjadhjjeafffaa
open Aw

/-- The checked code of laws markOutMoveSSS. -/
def lb_laws_markOutMoveSSS_0 : AC := (.post (.seq (.seq (.post (.reg [⟨(some 6), .op (.mv (.tmp 5)), none⟩,
    ⟨(some 7), .op (.mv (.tmp 0)), none⟩,
    ⟨(some 8), .op (.len false (.tmp 7)), none⟩,
    ⟨(some 9), .op (.bin .lss (.tmp 6) (.tmp 8)), none⟩]) (.kill [6, 7, 8]))
  (.cond (.tmp 9) (.ghost (.kill [9]) .skip)
  (.ghost (.kill [0, 5, 9]) (.exit 0))))
  (.seq (.block 1 (.post (.reg [⟨(some 12), .op (.mv (.tmp 0)), none⟩,
    ⟨(some 13), .op (.mv (.tmp 5)), none⟩,
    ⟨(some 14), .op (.iaddrS (.tmp 12) (.tmp 13) 1), none⟩,
    ⟨(some 15), .op (.load 1 false (.tmp 14)), none⟩,
    ⟨(some 16), .op (.mv (.tmp 1)), none⟩,
    ⟨(some 17), .call (.func i_laws_markOutMoveSS) [(.tmp 15), (.tmp 16)], none⟩,
    ⟨(some 1), .op (.mv (.tmp 17)), none⟩]) (.kill [12, 13, 14, 15, 16, 17])))
  (.post (.reg [⟨(some 10), .op (.mv (.tmp 5)), none⟩,
    ⟨(some 11), .op (.bin .add (.tmp 10) (.const (Value.int .i64 1))), none⟩,
    ⟨(some 5), .op (.mv (.tmp 11)), none⟩]) (.kill [10, 11])))) .nv)
def lo_laws_markOutMoveSSS_0 : AC := (.loop lb_laws_markOutMoveSSS_0)
def ac_laws_markOutMoveSSS : AC := (.seq (.post (.reg [⟨(some 4), .op (.mv (.const (Value.int .i64 0))), none⟩]) (.kill [4]))
  (.seq (.seq (.reg [⟨(some 5), .op (.mv (.const (Value.int .i64 0))), none⟩])
  (.post (.block 0 (.ghost .nv lo_laws_markOutMoveSSS_0)) .nv))
  (.ghost (.kill [0, 5]) (.seq (.post (.reg [⟨(some 18), .op (.mv (.tmp 1)), none⟩,
    ⟨(some 4), .op (.mv (.tmp 18)), none⟩]) (.kill [1, 18]))
  .ret))))
theorem cf_laws_markOutMoveSSS : chkFn Try.prog i_laws_markOutMoveSSS ac_laws_markOutMoveSSS [.tmp 4] 19 = true := by decide +kernel
def fa_laws_markOutMoveSSS : FnA := ⟨ac_laws_markOutMoveSSS, [.tmp 4], 19, true, false⟩

/-- The checked code of laws markRewriter. -/
def ac_laws_markRewriter : AC := (.seq (.post (.reg [⟨(some 2), .op (.box true (.tmp 0)), none⟩,
    ⟨(some 4), .op (.mv (.const (Value.int .i64 0))), none⟩]) (.kill [0, 4]))
  (.seq (.post (.reg [⟨(some 5), .op (.faddr (.tmp 2) 2), none⟩,
    ⟨(some 6), .op (.load 1 false (.tmp 5)), none⟩,
    ⟨(some 7), .op (.mv (.tmp 1)), none⟩,
    ⟨(some 8), .call (.func i_laws_markOutPushSS) [(.tmp 6), (.tmp 7)], none⟩,
    ⟨(some 1), .op (.mv (.tmp 8)), none⟩]) (.kill [5, 6, 7, 8]))
  (.seq (.post (.reg [⟨(some 9), .op (.faddr (.tmp 2) 3), none⟩,
    ⟨(some 10), .op (.load 1 false (.tmp 9)), none⟩,
    ⟨(some 11), .op (.mv (.tmp 1)), none⟩,
    ⟨(some 12), .call (.func i_laws_markOutMoveSSS) [(.tmp 10), (.tmp 11)], none⟩,
    ⟨(some 1), .op (.mv (.tmp 12)), none⟩]) (.kill [9, 10, 11, 12]))
  (.seq (.post (.reg [⟨(some 13), .op (.faddr (.tmp 2) 4), none⟩,
    ⟨(some 14), .op (.load 1 false (.tmp 13)), none⟩,
    ⟨(some 15), .op (.mv (.tmp 1)), none⟩,
    ⟨(some 16), .call (.func i_laws_markOutMoveSS) [(.tmp 14), (.tmp 15)], none⟩,
    ⟨(some 1), .op (.mv (.tmp 16)), none⟩]) (.kill [2, 13, 14, 15, 16]))
  (.seq (.post (.reg [⟨(some 17), .op (.mv (.tmp 1)), none⟩,
    ⟨(some 4), .op (.mv (.tmp 17)), none⟩]) (.kill [1, 17]))
  .ret)))))
theorem cf_laws_markRewriter : chkFn Try.prog i_laws_markRewriter ac_laws_markRewriter [.tmp 4] 18 = true := by decide +kernel
def fa_laws_markRewriter : FnA := ⟨ac_laws_markRewriter, [.tmp 4], 18, true, false⟩

/-- The checked code of laws heldOutPushS. -/
def lb_laws_heldOutPushS_0 : AC := (.seq (.seq (.post (.reg [⟨(some 6), .op (.mv (.tmp 5)), none⟩,
    ⟨(some 7), .op (.mv (.tmp 0)), none⟩,
    ⟨(some 8), .op (.len false (.tmp 7)), none⟩,
    ⟨(some 9), .op (.bin .lss (.tmp 6) (.tmp 8)), none⟩]) (.kill [6, 7, 8]))
  (.cond (.tmp 9) (.ghost (.kill [9]) .skip)
  (.ghost (.kill [0, 5, 9]) (.exit 0))))
  (.seq (.block 1 (.seq (.seq (.post (.reg [⟨(some 12), .op (.mv (.tmp 0)), none⟩,
    ⟨(some 13), .op (.mv (.tmp 5)), none⟩,
    ⟨(some 14), .op (.iaddrS (.tmp 12) (.tmp 13) 3), none⟩,
    ⟨(some 15), .op (.faddr (.tmp 14) 0), none⟩,
    ⟨(some 16), .op (.load 1 false (.tmp 15)), none⟩,
    ⟨(some 17), .op (.mv (.tmp 1)), none⟩,
    ⟨(some 18), .op (.bin .neq (.tmp 16) (.tmp 17)), none⟩]) (.kill [12, 13, 14, 15, 16, 17]))
  (.cond (.tmp 18) (.ghost (.kill [0, 1, 5, 18]) (.seq (.reg [⟨(some 4), .op (.mv (.const (Value.int .i64 (-1)))), none⟩])
  .ret))
  (.ghost (.kill [18]) .skip)))
  (.seq (.post (.reg [⟨(some 19), .op (.mv (.tmp 1)), none⟩,
    ⟨(some 20), .op (.bin .add (.tmp 19) (.const (Value.int .i64 1))), none⟩,
    ⟨(some 1), .op (.mv (.tmp 20)), none⟩]) (.kill [19, 20]))
  (.seq (.seq (.post (.reg [⟨(some 21), .op (.mv (.tmp 0)), none⟩,
    ⟨(some 22), .op (.mv (.tmp 5)), none⟩,
    ⟨(some 23), .op (.iaddrS (.tmp 21) (.tmp 22) 3), none⟩,
    ⟨(some 24), .op (.faddr (.tmp 23) 1), none⟩,
    ⟨(some 25), .op (.load 1 false (.tmp 24)), none⟩,
    ⟨(some 26), .op (.mv (.tmp 1)), none⟩,
    ⟨(some 27), .op (.bin .neq (.tmp 25) (.tmp 26)), none⟩]) (.kill [21, 22, 23, 24, 25, 26]))
  (.cond (.tmp 27) (.ghost (.kill [0, 1, 5, 27]) (.seq (.reg [⟨(some 4), .op (.mv (.const (Value.int .i64 (-1)))), none⟩])
  .ret))
  (.ghost (.kill [27]) .skip)))
  (.seq (.post (.reg [⟨(some 28), .op (.mv (.tmp 1)), none⟩,
    ⟨(some 29), .op (.bin .add (.tmp 28) (.const (Value.int .i64 1))), none⟩,
    ⟨(some 1), .op (.mv (.tmp 29)), none⟩]) (.kill [28, 29]))
  (.seq (.seq (.post (.draw [⟨0, ⟨(some 30), .op (.mv (.tmp 0)), none⟩, []⟩,
    ⟨1, ⟨(some 31), .op (.mv (.tmp 5)), none⟩, []⟩,
    ⟨2, ⟨(some 32), .op (.iaddrS (.tmp 30) (.tmp 31) 3), none⟩, []⟩,
    ⟨3, ⟨(some 33), .op (.faddr (.tmp 32) 2), none⟩, []⟩,
    ⟨4, ⟨(some 34), .op (.load 1 false (.tmp 33)), none⟩, []⟩,
    ⟨5, ⟨(some 35), .op (.mv (.tmp 1)), none⟩, []⟩,
    ⟨6, ⟨(some 36), .call (.func i_laws_markText) [(.tmp 35)], none⟩, [2, 4]⟩,
    ⟨7, ⟨(some 37), .op (.bin .neq (.tmp 34) (.tmp 36)), none⟩, []⟩]
    [0, 0, 3, 7, 15, 0, 32, 127]) (.kill [30, 31, 32, 33, 34, 35, 36]))
  (.cond (.tmp 37) (.ghost (.kill [0, 1, 5, 37]) (.seq (.reg [⟨(some 4), .op (.mv (.const (Value.int .i64 (-1)))), none⟩])
  .ret))
  (.ghost (.kill [37]) .skip)))
  (.post (.reg [⟨(some 38), .op (.mv (.tmp 1)), none⟩,
    ⟨(some 39), .op (.bin .add (.tmp 38) (.const (Value.int .i64 1))), none⟩,
    ⟨(some 1), .op (.mv (.tmp 39)), none⟩]) (.kill [38, 39]))))))))
  (.post (.reg [⟨(some 10), .op (.mv (.tmp 5)), none⟩,
    ⟨(some 11), .op (.bin .add (.tmp 10) (.const (Value.int .i64 1))), none⟩,
    ⟨(some 5), .op (.mv (.tmp 11)), none⟩]) (.kill [10, 11]))))
def lo_laws_heldOutPushS_0 : AC := (.loop lb_laws_heldOutPushS_0)
def ac_laws_heldOutPushS : AC := (.seq (.post (.reg [⟨(some 4), .op (.mv (.const (Value.int .i64 0))), none⟩]) (.kill [4]))
  (.seq (.seq (.reg [⟨(some 5), .op (.mv (.const (Value.int .i64 0))), none⟩])
  (.block 0 lo_laws_heldOutPushS_0))
  (.ghost (.kill [0, 5]) (.seq (.post (.reg [⟨(some 40), .op (.mv (.tmp 1)), none⟩,
    ⟨(some 4), .op (.mv (.tmp 40)), none⟩]) (.kill [1, 40]))
  .ret))))
theorem cf_laws_heldOutPushS : chkFn Try.prog i_laws_heldOutPushS ac_laws_heldOutPushS [.tmp 4] 41 = true := by decide +kernel
def fa_laws_heldOutPushS : FnA := ⟨ac_laws_heldOutPushS, [.tmp 4], 41, false, true⟩

/-- The checked code of laws heldOutPushSS. -/
def lb_laws_heldOutPushSS_0 : AC := (.seq (.seq (.post (.reg [⟨(some 6), .op (.mv (.tmp 5)), none⟩,
    ⟨(some 7), .op (.mv (.tmp 0)), none⟩,
    ⟨(some 8), .op (.len false (.tmp 7)), none⟩,
    ⟨(some 9), .op (.bin .lss (.tmp 6) (.tmp 8)), none⟩]) (.kill [6, 7, 8]))
  (.cond (.tmp 9) (.ghost (.kill [9]) .skip)
  (.ghost (.kill [0, 5, 9]) (.exit 0))))
  (.seq (.block 1 (.seq (.post (.reg [⟨(some 12), .op (.mv (.tmp 0)), none⟩,
    ⟨(some 13), .op (.mv (.tmp 5)), none⟩,
    ⟨(some 14), .op (.iaddrS (.tmp 12) (.tmp 13) 1), none⟩,
    ⟨(some 15), .op (.load 1 false (.tmp 14)), none⟩,
    ⟨(some 16), .op (.mv (.tmp 1)), none⟩,
    ⟨(some 17), .call (.func i_laws_heldOutPushS) [(.tmp 15), (.tmp 16)], none⟩,
    ⟨(some 1), .op (.mv (.tmp 17)), none⟩]) (.kill [12, 13, 14, 15, 16, 17]))
  (.seq (.post (.reg [⟨(some 18), .op (.mv (.tmp 1)), none⟩,
    ⟨(some 19), .op (.bin .lss (.tmp 18) (.const (Value.int .i64 0))), none⟩]) (.kill [18]))
  (.cond (.tmp 19) (.ghost (.kill [0, 1, 5, 19]) (.seq (.reg [⟨(some 4), .op (.mv (.const (Value.int .i64 (-1)))), none⟩])
  .ret))
  (.ghost (.kill [19]) .skip)))))
  (.post (.reg [⟨(some 10), .op (.mv (.tmp 5)), none⟩,
    ⟨(some 11), .op (.bin .add (.tmp 10) (.const (Value.int .i64 1))), none⟩,
    ⟨(some 5), .op (.mv (.tmp 11)), none⟩]) (.kill [10, 11]))))
def lo_laws_heldOutPushSS_0 : AC := (.loop lb_laws_heldOutPushSS_0)
def ac_laws_heldOutPushSS : AC := (.seq (.post (.reg [⟨(some 4), .op (.mv (.const (Value.int .i64 0))), none⟩]) (.kill [4]))
  (.seq (.seq (.reg [⟨(some 5), .op (.mv (.const (Value.int .i64 0))), none⟩])
  (.block 0 lo_laws_heldOutPushSS_0))
  (.ghost (.kill [0, 5]) (.seq (.post (.reg [⟨(some 20), .op (.mv (.tmp 1)), none⟩,
    ⟨(some 4), .op (.mv (.tmp 20)), none⟩]) (.kill [1, 20]))
  .ret))))
theorem cf_laws_heldOutPushSS : chkFn Try.prog i_laws_heldOutPushSS ac_laws_heldOutPushSS [.tmp 4] 21 = true := by decide +kernel
def fa_laws_heldOutPushSS : FnA := ⟨ac_laws_heldOutPushSS, [.tmp 4], 21, false, true⟩

/-- The checked code of laws heldOutMoveS. -/
def lb_laws_heldOutMoveS_0 : AC := (.seq (.seq (.post (.reg [⟨(some 6), .op (.mv (.tmp 5)), none⟩,
    ⟨(some 7), .op (.mv (.tmp 0)), none⟩,
    ⟨(some 8), .op (.len false (.tmp 7)), none⟩,
    ⟨(some 9), .op (.bin .lss (.tmp 6) (.tmp 8)), none⟩]) (.kill [6, 7, 8]))
  (.cond (.tmp 9) (.ghost (.kill [9]) .skip)
  (.ghost (.kill [0, 5, 9]) (.exit 0))))
  (.seq (.block 1 (.seq (.seq (.post (.reg [⟨(some 12), .op (.mv (.tmp 0)), none⟩,
    ⟨(some 13), .op (.mv (.tmp 5)), none⟩,
    ⟨(some 14), .op (.iaddrS (.tmp 12) (.tmp 13) 2), none⟩,
    ⟨(some 15), .op (.faddr (.tmp 14) 0), none⟩,
    ⟨(some 16), .op (.load 1 false (.tmp 15)), none⟩,
    ⟨(some 17), .op (.mv (.tmp 1)), none⟩,
    ⟨(some 18), .op (.bin .neq (.tmp 16) (.tmp 17)), none⟩]) (.kill [12, 13, 14, 15, 16, 17]))
  (.cond (.tmp 18) (.ghost (.kill [0, 1, 5, 18]) (.seq (.reg [⟨(some 4), .op (.mv (.const (Value.int .i64 (-1)))), none⟩])
  .ret))
  (.ghost (.kill [18]) .skip)))
  (.seq (.post (.reg [⟨(some 19), .op (.mv (.tmp 1)), none⟩,
    ⟨(some 20), .op (.bin .add (.tmp 19) (.const (Value.int .i64 1))), none⟩,
    ⟨(some 1), .op (.mv (.tmp 20)), none⟩]) (.kill [19, 20]))
  (.seq (.seq (.post (.draw [⟨0, ⟨(some 21), .op (.mv (.tmp 0)), none⟩, []⟩,
    ⟨1, ⟨(some 22), .op (.mv (.tmp 5)), none⟩, []⟩,
    ⟨2, ⟨(some 23), .op (.iaddrS (.tmp 21) (.tmp 22) 2), none⟩, []⟩,
    ⟨3, ⟨(some 24), .op (.faddr (.tmp 23) 1), none⟩, []⟩,
    ⟨4, ⟨(some 25), .op (.load 1 false (.tmp 24)), none⟩, []⟩,
    ⟨5, ⟨(some 26), .op (.mv (.tmp 1)), none⟩, []⟩,
    ⟨6, ⟨(some 27), .call (.func i_laws_markText) [(.tmp 26)], none⟩, [2, 4]⟩,
    ⟨7, ⟨(some 28), .op (.bin .neq (.tmp 25) (.tmp 27)), none⟩, []⟩]
    [0, 0, 3, 7, 15, 0, 32, 127]) (.kill [21, 22, 23, 24, 25, 26, 27]))
  (.cond (.tmp 28) (.ghost (.kill [0, 1, 5, 28]) (.seq (.reg [⟨(some 4), .op (.mv (.const (Value.int .i64 (-1)))), none⟩])
  .ret))
  (.ghost (.kill [28]) .skip)))
  (.post (.reg [⟨(some 29), .op (.mv (.tmp 1)), none⟩,
    ⟨(some 30), .op (.bin .add (.tmp 29) (.const (Value.int .i64 1))), none⟩,
    ⟨(some 1), .op (.mv (.tmp 30)), none⟩]) (.kill [29, 30]))))))
  (.post (.reg [⟨(some 10), .op (.mv (.tmp 5)), none⟩,
    ⟨(some 11), .op (.bin .add (.tmp 10) (.const (Value.int .i64 1))), none⟩,
    ⟨(some 5), .op (.mv (.tmp 11)), none⟩]) (.kill [10, 11]))))
def lo_laws_heldOutMoveS_0 : AC := (.loop lb_laws_heldOutMoveS_0)
def ac_laws_heldOutMoveS : AC := (.seq (.post (.reg [⟨(some 4), .op (.mv (.const (Value.int .i64 0))), none⟩]) (.kill [4]))
  (.seq (.seq (.reg [⟨(some 5), .op (.mv (.const (Value.int .i64 0))), none⟩])
  (.block 0 lo_laws_heldOutMoveS_0))
  (.ghost (.kill [0, 5]) (.seq (.post (.reg [⟨(some 31), .op (.mv (.tmp 1)), none⟩,
    ⟨(some 4), .op (.mv (.tmp 31)), none⟩]) (.kill [1, 31]))
  .ret))))
theorem cf_laws_heldOutMoveS : chkFn Try.prog i_laws_heldOutMoveS ac_laws_heldOutMoveS [.tmp 4] 32 = true := by decide +kernel
def fa_laws_heldOutMoveS : FnA := ⟨ac_laws_heldOutMoveS, [.tmp 4], 32, false, true⟩

/-- The checked code of laws heldOutMoveSS. -/
def lb_laws_heldOutMoveSS_0 : AC := (.seq (.seq (.post (.reg [⟨(some 6), .op (.mv (.tmp 5)), none⟩,
    ⟨(some 7), .op (.mv (.tmp 0)), none⟩,
    ⟨(some 8), .op (.len false (.tmp 7)), none⟩,
    ⟨(some 9), .op (.bin .lss (.tmp 6) (.tmp 8)), none⟩]) (.kill [6, 7, 8]))
  (.cond (.tmp 9) (.ghost (.kill [9]) .skip)
  (.ghost (.kill [0, 5, 9]) (.exit 0))))
  (.seq (.block 1 (.seq (.post (.reg [⟨(some 12), .op (.mv (.tmp 0)), none⟩,
    ⟨(some 13), .op (.mv (.tmp 5)), none⟩,
    ⟨(some 14), .op (.iaddrS (.tmp 12) (.tmp 13) 1), none⟩,
    ⟨(some 15), .op (.load 1 false (.tmp 14)), none⟩,
    ⟨(some 16), .op (.mv (.tmp 1)), none⟩,
    ⟨(some 17), .call (.func i_laws_heldOutMoveS) [(.tmp 15), (.tmp 16)], none⟩,
    ⟨(some 1), .op (.mv (.tmp 17)), none⟩]) (.kill [12, 13, 14, 15, 16, 17]))
  (.seq (.post (.reg [⟨(some 18), .op (.mv (.tmp 1)), none⟩,
    ⟨(some 19), .op (.bin .lss (.tmp 18) (.const (Value.int .i64 0))), none⟩]) (.kill [18]))
  (.cond (.tmp 19) (.ghost (.kill [0, 1, 5, 19]) (.seq (.reg [⟨(some 4), .op (.mv (.const (Value.int .i64 (-1)))), none⟩])
  .ret))
  (.ghost (.kill [19]) .skip)))))
  (.post (.reg [⟨(some 10), .op (.mv (.tmp 5)), none⟩,
    ⟨(some 11), .op (.bin .add (.tmp 10) (.const (Value.int .i64 1))), none⟩,
    ⟨(some 5), .op (.mv (.tmp 11)), none⟩]) (.kill [10, 11]))))
def lo_laws_heldOutMoveSS_0 : AC := (.loop lb_laws_heldOutMoveSS_0)
def ac_laws_heldOutMoveSS : AC := (.seq (.post (.reg [⟨(some 4), .op (.mv (.const (Value.int .i64 0))), none⟩]) (.kill [4]))
  (.seq (.seq (.reg [⟨(some 5), .op (.mv (.const (Value.int .i64 0))), none⟩])
  (.block 0 lo_laws_heldOutMoveSS_0))
  (.ghost (.kill [0, 5]) (.seq (.post (.reg [⟨(some 20), .op (.mv (.tmp 1)), none⟩,
    ⟨(some 4), .op (.mv (.tmp 20)), none⟩]) (.kill [1, 20]))
  .ret))))
theorem cf_laws_heldOutMoveSS : chkFn Try.prog i_laws_heldOutMoveSS ac_laws_heldOutMoveSS [.tmp 4] 21 = true := by decide +kernel
def fa_laws_heldOutMoveSS : FnA := ⟨ac_laws_heldOutMoveSS, [.tmp 4], 21, false, true⟩

/-- The checked code of laws heldOutMoveSSS. -/
def lb_laws_heldOutMoveSSS_0 : AC := (.seq (.seq (.post (.reg [⟨(some 6), .op (.mv (.tmp 5)), none⟩,
    ⟨(some 7), .op (.mv (.tmp 0)), none⟩,
    ⟨(some 8), .op (.len false (.tmp 7)), none⟩,
    ⟨(some 9), .op (.bin .lss (.tmp 6) (.tmp 8)), none⟩]) (.kill [6, 7, 8]))
  (.cond (.tmp 9) (.ghost (.kill [9]) .skip)
  (.ghost (.kill [0, 5, 9]) (.exit 0))))
  (.seq (.block 1 (.seq (.post (.reg [⟨(some 12), .op (.mv (.tmp 0)), none⟩,
    ⟨(some 13), .op (.mv (.tmp 5)), none⟩,
    ⟨(some 14), .op (.iaddrS (.tmp 12) (.tmp 13) 1), none⟩,
    ⟨(some 15), .op (.load 1 false (.tmp 14)), none⟩,
    ⟨(some 16), .op (.mv (.tmp 1)), none⟩,
    ⟨(some 17), .call (.func i_laws_heldOutMoveSS) [(.tmp 15), (.tmp 16)], none⟩,
    ⟨(some 1), .op (.mv (.tmp 17)), none⟩]) (.kill [12, 13, 14, 15, 16, 17]))
  (.seq (.post (.reg [⟨(some 18), .op (.mv (.tmp 1)), none⟩,
    ⟨(some 19), .op (.bin .lss (.tmp 18) (.const (Value.int .i64 0))), none⟩]) (.kill [18]))
  (.cond (.tmp 19) (.ghost (.kill [0, 1, 5, 19]) (.seq (.reg [⟨(some 4), .op (.mv (.const (Value.int .i64 (-1)))), none⟩])
  .ret))
  (.ghost (.kill [19]) .skip)))))
  (.post (.reg [⟨(some 10), .op (.mv (.tmp 5)), none⟩,
    ⟨(some 11), .op (.bin .add (.tmp 10) (.const (Value.int .i64 1))), none⟩,
    ⟨(some 5), .op (.mv (.tmp 11)), none⟩]) (.kill [10, 11]))))
def lo_laws_heldOutMoveSSS_0 : AC := (.loop lb_laws_heldOutMoveSSS_0)
def ac_laws_heldOutMoveSSS : AC := (.seq (.post (.reg [⟨(some 4), .op (.mv (.const (Value.int .i64 0))), none⟩]) (.kill [4]))
  (.seq (.seq (.reg [⟨(some 5), .op (.mv (.const (Value.int .i64 0))), none⟩])
  (.block 0 lo_laws_heldOutMoveSSS_0))
  (.ghost (.kill [0, 5]) (.seq (.post (.reg [⟨(some 20), .op (.mv (.tmp 1)), none⟩,
    ⟨(some 4), .op (.mv (.tmp 20)), none⟩]) (.kill [1, 20]))
  .ret))))
theorem cf_laws_heldOutMoveSSS : chkFn Try.prog i_laws_heldOutMoveSSS ac_laws_heldOutMoveSSS [.tmp 4] 21 = true := by decide +kernel
def fa_laws_heldOutMoveSSS : FnA := ⟨ac_laws_heldOutMoveSSS, [.tmp 4], 21, false, true⟩

/-- The checked code of laws heldRewriter. -/
def ac_laws_heldRewriter : AC := (.seq (.post (.reg [⟨(some 2), .op (.box true (.tmp 0)), none⟩,
    ⟨(some 4), .op (.mv (.const (Value.int .i64 0))), none⟩]) (.kill [0, 4]))
  (.seq (.post (.reg [⟨(some 5), .op (.faddr (.tmp 2) 2), none⟩,
    ⟨(some 6), .op (.load 1 false (.tmp 5)), none⟩,
    ⟨(some 7), .op (.mv (.tmp 1)), none⟩,
    ⟨(some 8), .call (.func i_laws_heldOutPushSS) [(.tmp 6), (.tmp 7)], none⟩,
    ⟨(some 1), .op (.mv (.tmp 8)), none⟩]) (.kill [5, 6, 7, 8]))
  (.seq (.seq (.post (.reg [⟨(some 9), .op (.mv (.tmp 1)), none⟩,
    ⟨(some 10), .op (.bin .lss (.tmp 9) (.const (Value.int .i64 0))), none⟩]) (.kill [9]))
  (.cond (.tmp 10) (.ghost (.kill [1, 2, 10]) (.seq (.reg [⟨(some 4), .op (.mv (.const (Value.int .i64 (-1)))), none⟩])
  .ret))
  (.ghost (.kill [10]) .skip)))
  (.seq (.post (.reg [⟨(some 11), .op (.faddr (.tmp 2) 3), none⟩,
    ⟨(some 12), .op (.load 1 false (.tmp 11)), none⟩,
    ⟨(some 13), .op (.mv (.tmp 1)), none⟩,
    ⟨(some 14), .call (.func i_laws_heldOutMoveSSS) [(.tmp 12), (.tmp 13)], none⟩,
    ⟨(some 1), .op (.mv (.tmp 14)), none⟩]) (.kill [11, 12, 13, 14]))
  (.seq (.seq (.post (.reg [⟨(some 15), .op (.mv (.tmp 1)), none⟩,
    ⟨(some 16), .op (.bin .lss (.tmp 15) (.const (Value.int .i64 0))), none⟩]) (.kill [15]))
  (.cond (.tmp 16) (.ghost (.kill [1, 2, 16]) (.seq (.reg [⟨(some 4), .op (.mv (.const (Value.int .i64 (-1)))), none⟩])
  .ret))
  (.ghost (.kill [16]) .skip)))
  (.seq (.post (.reg [⟨(some 17), .op (.faddr (.tmp 2) 4), none⟩,
    ⟨(some 18), .op (.load 1 false (.tmp 17)), none⟩,
    ⟨(some 19), .op (.mv (.tmp 1)), none⟩,
    ⟨(some 20), .call (.func i_laws_heldOutMoveSS) [(.tmp 18), (.tmp 19)], none⟩,
    ⟨(some 1), .op (.mv (.tmp 20)), none⟩]) (.kill [2, 17, 18, 19, 20]))
  (.seq (.seq (.post (.reg [⟨(some 21), .op (.mv (.tmp 1)), none⟩,
    ⟨(some 22), .op (.bin .lss (.tmp 21) (.const (Value.int .i64 0))), none⟩]) (.kill [21]))
  (.cond (.tmp 22) (.ghost (.kill [1, 22]) (.seq (.reg [⟨(some 4), .op (.mv (.const (Value.int .i64 (-1)))), none⟩])
  .ret))
  (.ghost (.kill [22]) .skip)))
  (.seq (.post (.reg [⟨(some 23), .op (.mv (.tmp 1)), none⟩,
    ⟨(some 4), .op (.mv (.tmp 23)), none⟩]) (.kill [1, 23]))
  .ret))))))))
theorem cf_laws_heldRewriter : chkFn Try.prog i_laws_heldRewriter ac_laws_heldRewriter [.tmp 4] 24 = true := by decide +kernel
def fa_laws_heldRewriter : FnA := ⟨ac_laws_heldRewriter, [.tmp 4], 24, false, true⟩

/-- The checked code of laws FnExactIdentityRewriter. -/
def ac_laws_FnExactIdentityRewriter : AC := (.seq (.post (.reg [⟨(some 0), .op (.mv (.const (Value.bool false))), none⟩]) (.kill [0]))
  (.seq (.post (.reg [⟨(some 6), .call (.func i_spec_IdentityRewriter) [], none⟩,
    ⟨(some 1), .op (.alloc (Value.agg #[Value.int .i64 0, Value.int .i64 0, Value.slice none 0 0, Value.slice none 0 0, Value.slice none 0 0])), none⟩,
    ⟨none, .op (.store 5 (.tmp 1) (.tmp 6)), none⟩]) (.kill [6]))
  (.seq (.post (.reg [⟨(some 7), .call (.func i_impl_IdentityRewriter) [], none⟩,
    ⟨(some 2), .op (.alloc (Value.agg #[Value.int .i64 0, Value.int .i64 0, Value.slice none 0 0, Value.slice none 0 0, Value.slice none 0 0])), none⟩,
    ⟨none, .op (.store 5 (.tmp 2) (.tmp 7)), none⟩]) (.kill [7]))
  (.seq (.seq (.post (.reg [⟨(some 8), .op (.load 5 true (.tmp 2)), none⟩,
    ⟨(some 9), .op (.load 5 true (.tmp 1)), none⟩,
    ⟨(some 10), .call (.func i_laws_eqRewriter) [(.tmp 8), (.tmp 9)], none⟩,
    ⟨(some 11), .op (.un .not (.tmp 10)), none⟩]) (.kill [8, 9, 10]))
  (.cond (.tmp 11) (.ghost (.kill [1, 2, 11]) (.seq (.reg [⟨(some 0), .op (.mv (.const (Value.bool false))), none⟩])
  .ret))
  (.ghost (.kill [11]) .skip)))
  (.seq (.reg [⟨(some 3), .op (.mv (.const (Value.int .i64 1))), none⟩])
  (.seq (.post (.reg [⟨(some 12), .op (.load 5 true (.tmp 2)), none⟩,
    ⟨(some 13), .op (.mv (.tmp 3)), none⟩,
    ⟨(some 14), .call (.func i_laws_markRewriter) [(.tmp 12), (.tmp 13)], none⟩,
    ⟨(some 3), .op (.mv (.tmp 14)), none⟩]) (.kill [12, 13, 14]))
  (.seq (.reg [⟨(some 4), .op (.mv (.const (Value.int .i64 1))), none⟩])
  (.seq (.post (.reg [⟨(some 15), .op (.load 5 true (.tmp 2)), none⟩,
    ⟨(some 16), .op (.mv (.tmp 4)), none⟩,
    ⟨(some 17), .call (.func i_laws_heldRewriter) [(.tmp 15), (.tmp 16)], none⟩,
    ⟨(some 4), .op (.mv (.tmp 17)), none⟩]) (.kill [15, 16, 17]))
  (.seq (.seq (.post (.reg [⟨(some 18), .op (.mv (.tmp 4)), none⟩,
    ⟨(some 19), .op (.bin .lss (.tmp 18) (.const (Value.int .i64 0))), none⟩]) (.kill [18]))
  (.cond (.tmp 19) (.ghost (.kill [1, 2, 3, 4, 19]) (.seq (.reg [⟨(some 0), .op (.mv (.const (Value.bool false))), none⟩])
  .ret))
  (.ghost (.kill [19]) .skip)))
  (.seq (.seq (.post (.reg [⟨(some 20), .op (.mv (.tmp 4)), none⟩,
    ⟨(some 21), .op (.mv (.tmp 3)), none⟩,
    ⟨(some 22), .op (.bin .neq (.tmp 20) (.tmp 21)), none⟩]) (.kill [4, 20, 21]))
  (.cond (.tmp 22) (.ghost (.kill [1, 2, 3, 22]) (.seq (.reg [⟨(some 0), .op (.mv (.const (Value.bool false))), none⟩])
  .ret))
  (.ghost (.kill [22]) .skip)))
  (.seq (.post (.reg [⟨(some 23), .call (.func i_impl_IdentityRewriter) [], none⟩,
    ⟨(some 5), .op (.alloc (Value.agg #[Value.int .i64 0, Value.int .i64 0, Value.slice none 0 0, Value.slice none 0 0, Value.slice none 0 0])), none⟩,
    ⟨none, .op (.store 5 (.tmp 5) (.tmp 23)), none⟩]) (.kill [23]))
  (.seq (.seq (.post (.reg [⟨(some 24), .op (.load 5 true (.tmp 5)), none⟩,
    ⟨(some 25), .op (.load 5 true (.tmp 1)), none⟩,
    ⟨(some 26), .call (.func i_laws_eqRewriter) [(.tmp 24), (.tmp 25)], none⟩,
    ⟨(some 27), .op (.un .not (.tmp 26)), none⟩]) (.kill [1, 5, 24, 25, 26]))
  (.cond (.tmp 27) (.ghost (.kill [2, 3, 27]) (.seq (.reg [⟨(some 0), .op (.mv (.const (Value.bool false))), none⟩])
  .ret))
  (.ghost (.kill [27]) .skip)))
  (.seq (.reg [⟨(some 4), .op (.mv (.const (Value.int .i64 1))), none⟩])
  (.seq (.post (.reg [⟨(some 28), .op (.load 5 true (.tmp 2)), none⟩,
    ⟨(some 29), .op (.mv (.tmp 4)), none⟩,
    ⟨(some 30), .call (.func i_laws_heldRewriter) [(.tmp 28), (.tmp 29)], none⟩,
    ⟨(some 4), .op (.mv (.tmp 30)), none⟩]) (.kill [2, 28, 29, 30]))
  (.seq (.seq (.post (.reg [⟨(some 31), .op (.mv (.tmp 4)), none⟩,
    ⟨(some 32), .op (.bin .lss (.tmp 31) (.const (Value.int .i64 0))), none⟩]) (.kill [31]))
  (.cond (.tmp 32) (.ghost (.kill [3, 4, 32]) (.seq (.reg [⟨(some 0), .op (.mv (.const (Value.bool false))), none⟩])
  .ret))
  (.ghost (.kill [32]) .skip)))
  (.seq (.seq (.post (.reg [⟨(some 33), .op (.mv (.tmp 4)), none⟩,
    ⟨(some 34), .op (.mv (.tmp 3)), none⟩,
    ⟨(some 35), .op (.bin .neq (.tmp 33) (.tmp 34)), none⟩]) (.kill [3, 4, 33, 34]))
  (.cond (.tmp 35) (.ghost (.kill [35]) (.seq (.reg [⟨(some 0), .op (.mv (.const (Value.bool false))), none⟩])
  .ret))
  (.ghost (.kill [35]) .skip)))
  (.seq (.reg [⟨(some 0), .op (.mv (.const (Value.bool true))), none⟩])
  .ret)))))))))))))))))
theorem cf_laws_FnExactIdentityRewriter : chkFn Try.prog i_laws_FnExactIdentityRewriter ac_laws_FnExactIdentityRewriter [.tmp 0] 36 = true := by decide +kernel
def fa_laws_FnExactIdentityRewriter : FnA := ⟨ac_laws_FnExactIdentityRewriter, [.tmp 0], 36, false, true⟩

/-- The checked code of spec FixRewriter. -/
def lb_spec_FixRewriter_0 : AC := (.post (.seq (.seq (.post (.reg [⟨(some 10), .op (.mv (.tmp 2)), none⟩,
    ⟨(some 11), .op (.bin .lss (.tmp 10) (.const (Value.int .i64 2))), none⟩]) (.kill [10]))
  (.cond (.tmp 11) (.ghost (.kill [11]) .skip)
  (.ghost (.kill [2, 11]) (.exit 0))))
  (.seq (.block 1 (.seq (.post (.reg [⟨(some 14), .op (.faddr (.tmp 1) 3), none⟩,
    ⟨(some 15), .op (.load 1 false (.tmp 14)), none⟩,
    ⟨(some 16), .op (.iaddrS (.tmp 15) (.const (Value.int .i64 0)) 1), none⟩,
    ⟨(some 17), .op (.load 1 false (.tmp 16)), none⟩,
    ⟨(some 18), .op (.mv (.tmp 2)), none⟩,
    ⟨(some 19), .op (.iaddrS (.tmp 17) (.tmp 18) 1), none⟩,
    ⟨(some 20), .op (.load 1 false (.tmp 19)), none⟩,
    ⟨(some 21), .op (.iaddrS (.tmp 20) (.const (Value.int .i64 0)) 2), none⟩,
    ⟨(some 22), .op (.faddr (.tmp 21) 1), none⟩,
    ⟨none, .op (.store 1 (.tmp 22) (.const (Value.string ⟨#[41]⟩))), none⟩]) (.kill [14, 15, 16, 17, 18, 19, 20, 21, 22]))
  (.post (.reg [⟨(some 23), .op (.faddr (.tmp 1) 3), none⟩,
    ⟨(some 24), .op (.load 1 false (.tmp 23)), none⟩,
    ⟨(some 25), .op (.iaddrS (.tmp 24) (.const (Value.int .i64 0)) 1), none⟩,
    ⟨(some 26), .op (.load 1 false (.tmp 25)), none⟩,
    ⟨(some 27), .op (.mv (.tmp 2)), none⟩,
    ⟨(some 28), .op (.iaddrS (.tmp 26) (.tmp 27) 1), none⟩,
    ⟨(some 29), .op (.load 1 false (.tmp 28)), none⟩,
    ⟨(some 30), .op (.iaddrS (.tmp 29) (.const (Value.int .i64 1)) 2), none⟩,
    ⟨(some 31), .op (.faddr (.tmp 30) 1), none⟩,
    ⟨none, .op (.store 1 (.tmp 31) (.const (Value.string ⟨#[93]⟩))), none⟩]) (.kill [23, 24, 25, 26, 27, 28, 29, 30, 31]))))
  (.post (.reg [⟨(some 12), .op (.mv (.tmp 2)), none⟩,
    ⟨(some 13), .op (.bin .add (.tmp 12) (.const (Value.int .i64 1))), none⟩,
    ⟨(some 2), .op (.mv (.tmp 13)), none⟩]) (.kill [12, 13])))) .nv)
def lo_spec_FixRewriter_0 : AC := (.loop lb_spec_FixRewriter_0)
def ac_spec_FixRewriter : AC := (.seq (.reg [⟨(some 0), .op (.alloc (Value.agg #[Value.int .i64 0, Value.int .i64 0, Value.slice none 0 0, Value.slice none 0 0, Value.slice none 0 0])), none⟩])
  (.seq (.post (.reg [⟨(some 3), .call (.func i_spec_l06Plain) [(.const (Value.int .i64 1)), (.const (Value.int .i64 2))], none⟩,
    ⟨(some 1), .op (.alloc (Value.agg #[Value.int .i64 0, Value.int .i64 0, Value.slice none 0 0, Value.slice none 0 0, Value.slice none 0 0])), none⟩,
    ⟨none, .op (.store 5 (.tmp 1) (.tmp 3)), none⟩]) (.kill [3]))
  (.seq (.post (.reg [⟨(some 4), .op (.faddr (.tmp 1) 2), none⟩,
    ⟨(some 5), .op (.load 1 false (.tmp 4)), none⟩,
    ⟨(some 6), .op (.iaddrS (.tmp 5) (.const (Value.int .i64 0)) 1), none⟩,
    ⟨(some 7), .op (.load 1 false (.tmp 6)), none⟩,
    ⟨(some 8), .op (.iaddrS (.tmp 7) (.const (Value.int .i64 1)) 3), none⟩,
    ⟨(some 9), .op (.faddr (.tmp 8) 1), none⟩,
    ⟨none, .op (.store 1 (.tmp 9) (.const (Value.int .i64 1))), none⟩]) (.kill [4, 5, 6, 7, 8, 9]))
  (.seq (.seq (.reg [⟨(some 2), .op (.mv (.const (Value.int .i64 0))), none⟩])
  (.post (.block 0 (.ghost .nv lo_spec_FixRewriter_0)) .nv))
  (.ghost (.kill [2]) (.seq (.post (.reg [⟨(some 32), .op (.load 5 true (.tmp 1)), none⟩,
    ⟨none, .op (.store 5 (.tmp 0) (.tmp 32)), none⟩]) (.kill [1, 32]))
  .ret))))))
theorem cf_spec_FixRewriter : chkFn Try.prog i_spec_FixRewriter ac_spec_FixRewriter [.cell 0 5 true] 33 = true := by decide +kernel
def fa_spec_FixRewriter : FnA := ⟨ac_spec_FixRewriter, [.cell 0 5 true], 33, false, true⟩

/-- The checked code of impl FixRewriter 1. -/
def ac_impl_FixRewriter_1 : AC := (.ghost (.kill [0]) (.seq (.reg [⟨(some 4), .op (.alloc (Value.agg #[Value.int .i64 0, Value.int .i64 0, Value.string ⟨#[]⟩])), none⟩])
  (.seq (.post (.reg [⟨(some 5), .op (.mv (.tmp 1)), none⟩,
    ⟨(some 6), .op (.mv (.tmp 1)), none⟩,
    ⟨(some 7), .call (.func i_impl_symbol) [(.tmp 6)], none⟩,
    ⟨(some 8), .op (.build [Value.int .i64 0, Value.int .i64 0, Value.string ⟨#[]⟩] [(1, 1, (.tmp 5)), (2, 1, (.tmp 7))]), none⟩,
    ⟨none, .op (.store 3 (.tmp 4) (.tmp 8)), none⟩]) (.kill [1, 5, 6, 7, 8]))
  .ret)))
theorem cf_impl_FixRewriter_1 : chkFn Try.prog i_impl_FixRewriter_1 ac_impl_FixRewriter_1 [.cell 4 3 true] 9 = true := by decide +kernel
def fa_impl_FixRewriter_1 : FnA := ⟨ac_impl_FixRewriter_1, [.cell 4 3 true], 9, false, true⟩

/-- The checked code of impl FixRewriter 2. -/
def ac_impl_FixRewriter_2 : AC := (.ghost (.kill [0]) (.seq (.reg [⟨(some 6), .op (.alloc (Value.agg #[Value.int .i64 0, Value.string ⟨#[]⟩])), none⟩])
  (.seq (.seq (.post (.reg [⟨(some 7), .op (.mv (.tmp 2)), none⟩,
    ⟨(some 8), .op (.bin .lss (.tmp 7) (.const (Value.int .i64 2))), none⟩]) (.kill [7]))
  (.cond (.tmp 8) (.ghost (.kill [1, 8]) (.post (.reg [⟨(some 9), .op (.mv (.tmp 2)), none⟩,
    ⟨(some 1), .op (.mv (.tmp 9)), none⟩]) (.kill [2, 9])))
  (.ghost (.kill [2, 8]) .skip)))
  (.seq (.post (.reg [⟨(some 10), .op (.mv (.tmp 1)), none⟩,
    ⟨(some 11), .op (.bin .add (.const (Value.int .i64 2)) (.tmp 10)), none⟩,
    ⟨(some 12), .call (.func i_impl_symbol) [(.tmp 11)], none⟩,
    ⟨(some 13), .op (.build [Value.int .i64 0, Value.string ⟨#[]⟩] [(1, 1, (.tmp 12))]), none⟩,
    ⟨none, .op (.store 2 (.tmp 6) (.tmp 13)), none⟩]) (.kill [1, 10, 11, 12, 13]))
  .ret))))
theorem cf_impl_FixRewriter_2 : chkFn Try.prog i_impl_FixRewriter_2 ac_impl_FixRewriter_2 [.cell 6 2 true] 14 = true := by decide +kernel
def fa_impl_FixRewriter_2 : FnA := ⟨ac_impl_FixRewriter_2, [.cell 6 2 true], 14, false, true⟩

/-- The checked code of impl FixRewriter 3. -/
def ac_impl_FixRewriter_3 : AC := (.ghost (.kill [0]) (.seq (.reg [⟨(some 4), .op (.alloc (Value.agg #[Value.int .i64 0, Value.string ⟨#[]⟩])), none⟩])
  (.seq (.post (.reg [⟨(some 5), .op (.mv (.tmp 1)), none⟩,
    ⟨(some 6), .op (.bin .add (.const (Value.int .i64 4)) (.tmp 5)), none⟩,
    ⟨(some 7), .call (.func i_impl_symbol) [(.tmp 6)], none⟩,
    ⟨(some 8), .op (.build [Value.int .i64 0, Value.string ⟨#[]⟩] [(1, 1, (.tmp 7))]), none⟩,
    ⟨none, .op (.store 2 (.tmp 4) (.tmp 8)), none⟩]) (.kill [1, 5, 6, 7, 8]))
  .ret)))
theorem cf_impl_FixRewriter_3 : chkFn Try.prog i_impl_FixRewriter_3 ac_impl_FixRewriter_3 [.cell 4 2 true] 9 = true := by decide +kernel
def fa_impl_FixRewriter_3 : FnA := ⟨ac_impl_FixRewriter_3, [.cell 4 2 true], 9, false, true⟩

/-- The checked code of impl FixRewriter. -/
def ac_impl_FixRewriter : AC := (.seq (.reg [⟨(some 0), .op (.alloc (Value.agg #[Value.int .i64 0, Value.int .i64 0, Value.slice none 0 0, Value.slice none 0 0, Value.slice none 0 0])), none⟩])
  (.seq (.post (.reg [⟨(some 1), .call (.func i_impl_builtRewriter) [(.const (Value.int .i64 1)), (.const (Value.int .i64 2)), (.const (Value.int .i64 0)), (.func i_impl_FixRewriter_1), (.func i_impl_FixRewriter_2), (.func i_impl_FixRewriter_3)], none⟩,
    ⟨none, .op (.store 5 (.tmp 0) (.tmp 1)), none⟩]) (.kill [1]))
  .ret))
theorem cf_impl_FixRewriter : chkFn Try.prog i_impl_FixRewriter ac_impl_FixRewriter [.cell 0 5 true] 2 = true := by decide +kernel
def fa_impl_FixRewriter : FnA := ⟨ac_impl_FixRewriter, [.cell 0 5 true], 2, false, true⟩

/-- The checked code of laws FnExactFixRewriter. -/
def ac_laws_FnExactFixRewriter : AC := (.seq (.post (.reg [⟨(some 0), .op (.mv (.const (Value.bool false))), none⟩]) (.kill [0]))
  (.seq (.post (.reg [⟨(some 6), .call (.func i_spec_FixRewriter) [], none⟩,
    ⟨(some 1), .op (.alloc (Value.agg #[Value.int .i64 0, Value.int .i64 0, Value.slice none 0 0, Value.slice none 0 0, Value.slice none 0 0])), none⟩,
    ⟨none, .op (.store 5 (.tmp 1) (.tmp 6)), none⟩]) (.kill [6]))
  (.seq (.post (.reg [⟨(some 7), .call (.func i_impl_FixRewriter) [], none⟩,
    ⟨(some 2), .op (.alloc (Value.agg #[Value.int .i64 0, Value.int .i64 0, Value.slice none 0 0, Value.slice none 0 0, Value.slice none 0 0])), none⟩,
    ⟨none, .op (.store 5 (.tmp 2) (.tmp 7)), none⟩]) (.kill [7]))
  (.seq (.seq (.post (.reg [⟨(some 8), .op (.load 5 true (.tmp 2)), none⟩,
    ⟨(some 9), .op (.load 5 true (.tmp 1)), none⟩,
    ⟨(some 10), .call (.func i_laws_eqRewriter) [(.tmp 8), (.tmp 9)], none⟩,
    ⟨(some 11), .op (.un .not (.tmp 10)), none⟩]) (.kill [8, 9, 10]))
  (.cond (.tmp 11) (.ghost (.kill [1, 2, 11]) (.seq (.reg [⟨(some 0), .op (.mv (.const (Value.bool false))), none⟩])
  .ret))
  (.ghost (.kill [11]) .skip)))
  (.seq (.reg [⟨(some 3), .op (.mv (.const (Value.int .i64 1))), none⟩])
  (.seq (.post (.reg [⟨(some 12), .op (.load 5 true (.tmp 2)), none⟩,
    ⟨(some 13), .op (.mv (.tmp 3)), none⟩,
    ⟨(some 14), .call (.func i_laws_markRewriter) [(.tmp 12), (.tmp 13)], none⟩,
    ⟨(some 3), .op (.mv (.tmp 14)), none⟩]) (.kill [12, 13, 14]))
  (.seq (.reg [⟨(some 4), .op (.mv (.const (Value.int .i64 1))), none⟩])
  (.seq (.post (.reg [⟨(some 15), .op (.load 5 true (.tmp 2)), none⟩,
    ⟨(some 16), .op (.mv (.tmp 4)), none⟩,
    ⟨(some 17), .call (.func i_laws_heldRewriter) [(.tmp 15), (.tmp 16)], none⟩,
    ⟨(some 4), .op (.mv (.tmp 17)), none⟩]) (.kill [15, 16, 17]))
  (.seq (.seq (.post (.reg [⟨(some 18), .op (.mv (.tmp 4)), none⟩,
    ⟨(some 19), .op (.bin .lss (.tmp 18) (.const (Value.int .i64 0))), none⟩]) (.kill [18]))
  (.cond (.tmp 19) (.ghost (.kill [1, 2, 3, 4, 19]) (.seq (.reg [⟨(some 0), .op (.mv (.const (Value.bool false))), none⟩])
  .ret))
  (.ghost (.kill [19]) .skip)))
  (.seq (.seq (.post (.reg [⟨(some 20), .op (.mv (.tmp 4)), none⟩,
    ⟨(some 21), .op (.mv (.tmp 3)), none⟩,
    ⟨(some 22), .op (.bin .neq (.tmp 20) (.tmp 21)), none⟩]) (.kill [4, 20, 21]))
  (.cond (.tmp 22) (.ghost (.kill [1, 2, 3, 22]) (.seq (.reg [⟨(some 0), .op (.mv (.const (Value.bool false))), none⟩])
  .ret))
  (.ghost (.kill [22]) .skip)))
  (.seq (.post (.reg [⟨(some 23), .call (.func i_impl_FixRewriter) [], none⟩,
    ⟨(some 5), .op (.alloc (Value.agg #[Value.int .i64 0, Value.int .i64 0, Value.slice none 0 0, Value.slice none 0 0, Value.slice none 0 0])), none⟩,
    ⟨none, .op (.store 5 (.tmp 5) (.tmp 23)), none⟩]) (.kill [23]))
  (.seq (.seq (.post (.reg [⟨(some 24), .op (.load 5 true (.tmp 5)), none⟩,
    ⟨(some 25), .op (.load 5 true (.tmp 1)), none⟩,
    ⟨(some 26), .call (.func i_laws_eqRewriter) [(.tmp 24), (.tmp 25)], none⟩,
    ⟨(some 27), .op (.un .not (.tmp 26)), none⟩]) (.kill [1, 5, 24, 25, 26]))
  (.cond (.tmp 27) (.ghost (.kill [2, 3, 27]) (.seq (.reg [⟨(some 0), .op (.mv (.const (Value.bool false))), none⟩])
  .ret))
  (.ghost (.kill [27]) .skip)))
  (.seq (.reg [⟨(some 4), .op (.mv (.const (Value.int .i64 1))), none⟩])
  (.seq (.post (.reg [⟨(some 28), .op (.load 5 true (.tmp 2)), none⟩,
    ⟨(some 29), .op (.mv (.tmp 4)), none⟩,
    ⟨(some 30), .call (.func i_laws_heldRewriter) [(.tmp 28), (.tmp 29)], none⟩,
    ⟨(some 4), .op (.mv (.tmp 30)), none⟩]) (.kill [2, 28, 29, 30]))
  (.seq (.seq (.post (.reg [⟨(some 31), .op (.mv (.tmp 4)), none⟩,
    ⟨(some 32), .op (.bin .lss (.tmp 31) (.const (Value.int .i64 0))), none⟩]) (.kill [31]))
  (.cond (.tmp 32) (.ghost (.kill [3, 4, 32]) (.seq (.reg [⟨(some 0), .op (.mv (.const (Value.bool false))), none⟩])
  .ret))
  (.ghost (.kill [32]) .skip)))
  (.seq (.seq (.post (.reg [⟨(some 33), .op (.mv (.tmp 4)), none⟩,
    ⟨(some 34), .op (.mv (.tmp 3)), none⟩,
    ⟨(some 35), .op (.bin .neq (.tmp 33) (.tmp 34)), none⟩]) (.kill [3, 4, 33, 34]))
  (.cond (.tmp 35) (.ghost (.kill [35]) (.seq (.reg [⟨(some 0), .op (.mv (.const (Value.bool false))), none⟩])
  .ret))
  (.ghost (.kill [35]) .skip)))
  (.seq (.reg [⟨(some 0), .op (.mv (.const (Value.bool true))), none⟩])
  .ret)))))))))))))))))
theorem cf_laws_FnExactFixRewriter : chkFn Try.prog i_laws_FnExactFixRewriter ac_laws_FnExactFixRewriter [.tmp 0] 36 = true := by decide +kernel
def fa_laws_FnExactFixRewriter : FnA := ⟨ac_laws_FnExactFixRewriter, [.tmp 0], 36, false, true⟩

/-- The checked code of spec UnwrapRewriter. -/
def ac_spec_UnwrapRewriter : AC := (.seq (.post (.reg [⟨(some 2), .op (.alloc (Value.agg #[Value.int .i64 0, Value.int .i64 0, Value.slice none 0 0, Value.slice none 0 0, Value.slice none 0 0])), none⟩,
    ⟨(some 3), .op (.mv (.const (Value.int .i64 0))), none⟩]) (.kill [3]))
  (.seq (.reg [⟨(some 4), .op (.mv (.const (Value.int .i64 0))), none⟩])
  (.seq (.seq (.post (.reg [⟨(some 6), .op (.mv (.tmp 0)), none⟩,
    ⟨(some 7), .op (.bin .eql (.tmp 6) (.const (Value.string ⟨#[91]⟩))), none⟩]) (.kill [6]))
  (.cond (.tmp 7) (.ghost (.kill [4, 7]) (.reg [⟨(some 4), .op (.mv (.const (Value.int .i64 1))), none⟩]))
  (.ghost (.kill [7]) .skip)))
  (.seq (.seq (.post (.reg [⟨(some 8), .op (.mv (.tmp 0)), none⟩,
    ⟨(some 9), .op (.bin .neq (.tmp 8) (.const (Value.string ⟨#[40]⟩))), none⟩,
    ⟨(some 10), .op (.mv (.tmp 9)), none⟩,
    ⟨(some 11), .op (.mv (.tmp 0)), some (10, true)⟩,
    ⟨(some 12), .op (.bin .neq (.tmp 11) (.const (Value.string ⟨#[91]⟩))), some (10, true)⟩,
    ⟨(some 13), .op (.pick (.tmp 10) (.tmp 12) (.const (Value.bool false))), none⟩]) (.kill [0, 8, 9, 10, 11, 12]))
  (.cond (.tmp 13) (.ghost (.kill [4, 13]) (.seq (.post (.reg [⟨(some 14), .op (.build [Value.int .i64 0, Value.int .i64 0, Value.slice none 0 0, Value.slice none 0 0, Value.slice none 0 0] []), none⟩,
    ⟨none, .op (.store 5 (.tmp 2) (.tmp 14)), none⟩,
    ⟨(some 3), .op (.mv (.const (Value.int .i64 2))), none⟩]) (.kill [14]))
  .ret))
  (.ghost (.kill [13]) .skip)))
  (.seq (.post (.reg [⟨(some 15), .call (.func i_spec_l06Plain) [(.const (Value.int .i64 1)), (.const (Value.int .i64 2))], none⟩,
    ⟨(some 5), .op (.alloc (Value.agg #[Value.int .i64 0, Value.int .i64 0, Value.slice none 0 0, Value.slice none 0 0, Value.slice none 0 0])), none⟩,
    ⟨none, .op (.store 5 (.tmp 5) (.tmp 15)), none⟩]) (.kill [15]))
  (.seq (.post (.reg [⟨(some 16), .op (.faddr (.tmp 5) 2), none⟩,
    ⟨(some 17), .op (.load 1 false (.tmp 16)), none⟩,
    ⟨(some 18), .op (.iaddrS (.tmp 17) (.const (Value.int .i64 0)) 1), none⟩,
    ⟨(some 19), .op (.load 1 false (.tmp 18)), none⟩,
    ⟨(some 20), .op (.mv (.tmp 4)), none⟩,
    ⟨(some 21), .op (.build [Value.int .i64 0, Value.int .i64 0, Value.string ⟨#[]⟩] [(1, 1, (.const (Value.int .i64 1)))]), none⟩,
    ⟨(some 22), .op (.iaddrS (.tmp 19) (.tmp 20) 3), none⟩,
    ⟨none, .op (.store 3 (.tmp 22) (.tmp 21)), none⟩]) (.kill [4, 16, 17, 18, 19, 20, 21, 22]))
  (.seq (.post (.reg [⟨(some 23), .op (.faddr (.tmp 5) 3), none⟩,
    ⟨(some 24), .op (.load 1 false (.tmp 23)), none⟩,
    ⟨(some 25), .op (.iaddrS (.tmp 24) (.const (Value.int .i64 0)) 1), none⟩,
    ⟨(some 26), .op (.load 1 false (.tmp 25)), none⟩,
    ⟨(some 27), .op (.iaddrS (.tmp 26) (.const (Value.int .i64 0)) 1), none⟩,
    ⟨(some 28), .op (.load 1 false (.tmp 27)), none⟩,
    ⟨(some 29), .op (.iaddrS (.tmp 28) (.const (Value.int .i64 1)) 2), none⟩,
    ⟨(some 30), .op (.faddr (.tmp 29) 1), none⟩,
    ⟨none, .op (.store 1 (.tmp 30) (.const (Value.string ⟨#[]⟩))), none⟩]) (.kill [23, 24, 25, 26, 27, 28, 29, 30]))
  (.seq (.post (.reg [⟨(some 31), .op (.faddr (.tmp 5) 3), none⟩,
    ⟨(some 32), .op (.load 1 false (.tmp 31)), none⟩,
    ⟨(some 33), .op (.iaddrS (.tmp 32) (.const (Value.int .i64 0)) 1), none⟩,
    ⟨(some 34), .op (.load 1 false (.tmp 33)), none⟩,
    ⟨(some 35), .op (.iaddrS (.tmp 34) (.const (Value.int .i64 1)) 1), none⟩,
    ⟨(some 36), .op (.load 1 false (.tmp 35)), none⟩,
    ⟨(some 37), .op (.iaddrS (.tmp 36) (.const (Value.int .i64 1)) 2), none⟩,
    ⟨(some 38), .op (.faddr (.tmp 37) 1), none⟩,
    ⟨none, .op (.store 1 (.tmp 38) (.const (Value.string ⟨#[]⟩))), none⟩]) (.kill [31, 32, 33, 34, 35, 36, 37, 38]))
  (.seq (.post (.reg [⟨(some 39), .op (.load 5 true (.tmp 5)), none⟩,
    ⟨none, .op (.store 5 (.tmp 2) (.tmp 39)), none⟩,
    ⟨(some 3), .op (.mv (.const (Value.int .i64 0))), none⟩]) (.kill [5, 39]))
  .ret)))))))))
theorem cf_spec_UnwrapRewriter : chkFn Try.prog i_spec_UnwrapRewriter ac_spec_UnwrapRewriter [.cell 2 5 true, .tmp 3] 40 = true := by decide +kernel
def fa_spec_UnwrapRewriter : FnA := ⟨ac_spec_UnwrapRewriter, [.cell 2 5 true, .tmp 3], 40, false, true⟩

/-- The checked code of impl UnwrapRewriter 1. -/
def ac_impl_UnwrapRewriter_1 : AC := (.ghost (.kill [0]) (.seq (.reg [⟨(some 5), .op (.alloc (Value.agg #[Value.int .i64 0, Value.int .i64 0, Value.string ⟨#[]⟩])), none⟩])
  (.seq (.seq (.post (.draw [⟨0, ⟨(some 6), .op (.mv (.tmp 1)), none⟩, []⟩,
    ⟨2, ⟨(some 8), .op (.load 1 false (.tmp 2)), none⟩, []⟩,
    ⟨1, ⟨(some 7), .call (.func i_impl_symbol) [(.tmp 6)], none⟩, [2]⟩,
    ⟨3, ⟨(some 9), .op (.bin .eql (.tmp 7) (.tmp 8)), none⟩, []⟩]
    [0, 1, 0, 7]) (.kill [2, 6, 7, 8]))
  (.cond (.tmp 9) (.ghost (.kill [1, 9]) (.seq (.post (.reg [⟨(some 10), .op (.build [Value.int .i64 0, Value.int .i64 0, Value.string ⟨#[]⟩] [(1, 1, (.const (Value.int .i64 1)))]), none⟩,
    ⟨none, .op (.store 3 (.tmp 5) (.tmp 10)), none⟩]) (.kill [10]))
  .ret))
  (.ghost (.kill [9]) .skip)))
  (.seq (.post (.reg [⟨(some 11), .op (.mv (.tmp 1)), none⟩,
    ⟨(some 12), .call (.func i_impl_symbol) [(.tmp 11)], none⟩,
    ⟨(some 13), .op (.build [Value.int .i64 0, Value.int .i64 0, Value.string ⟨#[]⟩] [(2, 1, (.tmp 12))]), none⟩,
    ⟨none, .op (.store 3 (.tmp 5) (.tmp 13)), none⟩]) (.kill [1, 11, 12, 13]))
  .ret))))
theorem cf_impl_UnwrapRewriter_1 : chkFn Try.prog i_impl_UnwrapRewriter_1 ac_impl_UnwrapRewriter_1 [.cell 5 3 true] 14 = true := by decide +kernel
def fa_impl_UnwrapRewriter_1 : FnA := ⟨ac_impl_UnwrapRewriter_1, [.cell 5 3 true], 14, false, true⟩

/-- The checked code of impl UnwrapRewriter 2. -/
def ac_impl_UnwrapRewriter_2 : AC := (.ghost (.kill [0]) (.seq (.reg [⟨(some 6), .op (.alloc (Value.agg #[Value.int .i64 0, Value.string ⟨#[]⟩])), none⟩])
  (.seq (.seq (.post (.reg [⟨(some 7), .op (.mv (.tmp 2)), none⟩,
    ⟨(some 8), .op (.bin .eql (.tmp 7) (.const (Value.int .i64 1))), none⟩]) (.kill [2, 7]))
  (.cond (.tmp 8) (.ghost (.kill [1, 8]) (.seq (.post (.reg [⟨(some 9), .op (.build [Value.int .i64 0, Value.string ⟨#[]⟩] []), none⟩,
    ⟨none, .op (.store 2 (.tmp 6) (.tmp 9)), none⟩]) (.kill [9]))
  .ret))
  (.ghost (.kill [8]) .skip)))
  (.seq (.post (.reg [⟨(some 10), .op (.mv (.tmp 1)), none⟩,
    ⟨(some 11), .op (.bin .add (.const (Value.int .i64 2)) (.tmp 10)), none⟩,
    ⟨(some 12), .call (.func i_impl_symbol) [(.tmp 11)], none⟩,
    ⟨(some 13), .op (.build [Value.int .i64 0, Value.string ⟨#[]⟩] [(1, 1, (.tmp 12))]), none⟩,
    ⟨none, .op (.store 2 (.tmp 6) (.tmp 13)), none⟩]) (.kill [1, 10, 11, 12, 13]))
  .ret))))
theorem cf_impl_UnwrapRewriter_2 : chkFn Try.prog i_impl_UnwrapRewriter_2 ac_impl_UnwrapRewriter_2 [.cell 6 2 true] 14 = true := by decide +kernel
def fa_impl_UnwrapRewriter_2 : FnA := ⟨ac_impl_UnwrapRewriter_2, [.cell 6 2 true], 14, false, true⟩

/-- The checked code of impl UnwrapRewriter 3. -/
def ac_impl_UnwrapRewriter_3 : AC := (.ghost (.kill [0]) (.seq (.reg [⟨(some 4), .op (.alloc (Value.agg #[Value.int .i64 0, Value.string ⟨#[]⟩])), none⟩])
  (.seq (.post (.reg [⟨(some 5), .op (.mv (.tmp 1)), none⟩,
    ⟨(some 6), .op (.bin .add (.const (Value.int .i64 4)) (.tmp 5)), none⟩,
    ⟨(some 7), .call (.func i_impl_symbol) [(.tmp 6)], none⟩,
    ⟨(some 8), .op (.build [Value.int .i64 0, Value.string ⟨#[]⟩] [(1, 1, (.tmp 7))]), none⟩,
    ⟨none, .op (.store 2 (.tmp 4) (.tmp 8)), none⟩]) (.kill [1, 5, 6, 7, 8]))
  .ret)))
theorem cf_impl_UnwrapRewriter_3 : chkFn Try.prog i_impl_UnwrapRewriter_3 ac_impl_UnwrapRewriter_3 [.cell 4 2 true] 9 = true := by decide +kernel
def fa_impl_UnwrapRewriter_3 : FnA := ⟨ac_impl_UnwrapRewriter_3, [.cell 4 2 true], 9, false, true⟩

/-- The checked code of impl UnwrapRewriter. -/
def ac_impl_UnwrapRewriter : AC := (.seq (.post (.reg [⟨(some 1), .op (.box true (.tmp 0)), none⟩,
    ⟨(some 2), .op (.alloc (Value.agg #[Value.int .i64 0, Value.int .i64 0, Value.slice none 0 0, Value.slice none 0 0, Value.slice none 0 0])), none⟩,
    ⟨(some 3), .op (.mv (.const (Value.int .i64 0))), none⟩]) (.kill [0, 3]))
  (.seq (.seq (.post (.reg [⟨(some 4), .op (.load 1 false (.tmp 1)), none⟩,
    ⟨(some 5), .op (.bin .neq (.tmp 4) (.const (Value.string ⟨#[40]⟩))), none⟩,
    ⟨(some 6), .op (.mv (.tmp 5)), none⟩,
    ⟨(some 7), .op (.load 1 false (.tmp 1)), some (6, true)⟩,
    ⟨(some 8), .op (.bin .neq (.tmp 7) (.const (Value.string ⟨#[91]⟩))), some (6, true)⟩,
    ⟨(some 9), .op (.pick (.tmp 6) (.tmp 8) (.const (Value.bool false))), none⟩]) (.kill [4, 5, 6, 7, 8]))
  (.cond (.tmp 9) (.ghost (.kill [1, 9]) (.seq (.post (.reg [⟨(some 10), .op (.build [Value.int .i64 0, Value.int .i64 0, Value.slice none 0 0, Value.slice none 0 0, Value.slice none 0 0] []), none⟩,
    ⟨none, .op (.store 5 (.tmp 2) (.tmp 10)), none⟩,
    ⟨(some 3), .op (.mv (.const (Value.int .i64 2))), none⟩]) (.kill [10]))
  .ret))
  (.ghost (.kill [9]) .skip)))
  (.seq (.post (.reg [⟨(some 11), .op (.mkfn i_impl_UnwrapRewriter_1 [(.tmp 1)]), none⟩,
    ⟨(some 12), .call (.func i_impl_builtRewriter) [(.const (Value.int .i64 1)), (.const (Value.int .i64 2)), (.const (Value.int .i64 0)), (.tmp 11), (.func i_impl_UnwrapRewriter_2), (.func i_impl_UnwrapRewriter_3)], none⟩,
    ⟨none, .op (.store 5 (.tmp 2) (.tmp 12)), none⟩,
    ⟨(some 3), .op (.mv (.const (Value.int .i64 0))), none⟩]) (.kill [1, 11, 12]))
  .ret)))
theorem cf_impl_UnwrapRewriter : chkFn Try.prog i_impl_UnwrapRewriter ac_impl_UnwrapRewriter [.cell 2 5 true, .tmp 3] 13 = true := by decide +kernel
def fa_impl_UnwrapRewriter : FnA := ⟨ac_impl_UnwrapRewriter, [.cell 2 5 true, .tmp 3], 13, false, true⟩

/-- The checked code of laws FnExactUnwrapRewriter. -/
def ac_laws_FnExactUnwrapRewriter : AC := (.seq (.post (.reg [⟨(some 2), .op (.mv (.const (Value.bool false))), none⟩]) (.kill [2]))
  (.seq (.seq (.post (.reg [⟨(some 11), .op (.mv (.tmp 0)), none⟩,
    ⟨(some 12), .op (.len true (.tmp 11)), none⟩,
    ⟨(some 13), .op (.bin .gtr (.tmp 12) (.const (Value.int .i64 1048576))), none⟩]) (.kill [11, 12]))
  (.cond (.tmp 13) (.ghost (.kill [0, 13]) (.seq (.reg [⟨(some 2), .op (.mv (.const (Value.bool true))), none⟩])
  .ret))
  (.ghost (.kill [13]) .skip)))
  (.seq (.post (.reg [⟨(some 15), .op (.mv (.tmp 0)), none⟩,
    ⟨(some 16), .call (.func i_spec_UnwrapRewriter) [(.tmp 15)], none⟩,
    ⟨(some 14), .op (.mv (.tmp 16)), none⟩,
    ⟨(some 17), .op (.ext (.tmp 14) 0), none⟩,
    ⟨(some 18), .op (.ext (.tmp 14) 1), none⟩,
    ⟨(some 3), .op (.alloc (Value.agg #[Value.int .i64 0, Value.int .i64 0, Value.slice none 0 0, Value.slice none 0 0, Value.slice none 0 0])), none⟩,
    ⟨none, .op (.store 5 (.tmp 3) (.tmp 17)), none⟩,
    ⟨(some 4), .op (.mv (.tmp 18)), none⟩]) (.kill [14, 15, 16, 17, 18]))
  (.seq (.post (.reg [⟨(some 20), .op (.mv (.tmp 0)), none⟩,
    ⟨(some 21), .call (.func i_impl_UnwrapRewriter) [(.tmp 20)], none⟩,
    ⟨(some 19), .op (.mv (.tmp 21)), none⟩,
    ⟨(some 22), .op (.ext (.tmp 19) 0), none⟩,
    ⟨(some 23), .op (.ext (.tmp 19) 1), none⟩,
    ⟨(some 5), .op (.alloc (Value.agg #[Value.int .i64 0, Value.int .i64 0, Value.slice none 0 0, Value.slice none 0 0, Value.slice none 0 0])), none⟩,
    ⟨none, .op (.store 5 (.tmp 5) (.tmp 22)), none⟩,
    ⟨(some 6), .op (.mv (.tmp 23)), none⟩]) (.kill [19, 20, 21, 22, 23]))
  (.seq (.seq (.post (.reg [⟨(some 24), .op (.load 5 true (.tmp 5)), none⟩,
    ⟨(some 25), .op (.load 5 true (.tmp 3)), none⟩,
    ⟨(some 26), .call (.func i_laws_eqRewriter) [(.tmp 24), (.tmp 25)], none⟩,
    ⟨(some 27), .op (.un .not (.tmp 26)), none⟩,
    ⟨(some 28), .op (.mv (.tmp 27)), none⟩,
    ⟨(some 29), .op (.mv (.tmp 6)), some (28, false)⟩,
    ⟨(some 30), .op (.mv (.tmp 4)), some (28, false)⟩,
    ⟨(some 31), .op (.bin .neq (.tmp 29) (.tmp 30)), some (28, false)⟩,
    ⟨(some 32), .op (.pick (.tmp 28) (.const (Value.bool true)) (.tmp 31)), none⟩]) (.kill [6, 24, 25, 26, 27, 28, 29, 30, 31]))
  (.cond (.tmp 32) (.ghost (.kill [0, 3, 4, 5, 32]) (.seq (.reg [⟨(some 2), .op (.mv (.const (Value.bool false))), none⟩])
  .ret))
  (.ghost (.kill [32]) .skip)))
  (.seq (.reg [⟨(some 7), .op (.mv (.const (Value.int .i64 1))), none⟩])
  (.seq (.post (.reg [⟨(some 33), .op (.load 5 true (.tmp 5)), none⟩,
    ⟨(some 34), .op (.mv (.tmp 7)), none⟩,
    ⟨(some 35), .call (.func i_laws_markRewriter) [(.tmp 33), (.tmp 34)], none⟩,
    ⟨(some 7), .op (.mv (.tmp 35)), none⟩]) (.kill [33, 34, 35]))
  (.seq (.reg [⟨(some 8), .op (.mv (.const (Value.int .i64 1))), none⟩])
  (.seq (.post (.reg [⟨(some 36), .op (.load 5 true (.tmp 5)), none⟩,
    ⟨(some 37), .op (.mv (.tmp 8)), none⟩,
    ⟨(some 38), .call (.func i_laws_heldRewriter) [(.tmp 36), (.tmp 37)], none⟩,
    ⟨(some 8), .op (.mv (.tmp 38)), none⟩]) (.kill [36, 37, 38]))
  (.seq (.seq (.post (.reg [⟨(some 39), .op (.mv (.tmp 8)), none⟩,
    ⟨(some 40), .op (.bin .lss (.tmp 39) (.const (Value.int .i64 0))), none⟩]) (.kill [39]))
  (.cond (.tmp 40) (.ghost (.kill [0, 3, 4, 5, 7, 8, 40]) (.seq (.reg [⟨(some 2), .op (.mv (.const (Value.bool false))), none⟩])
  .ret))
  (.ghost (.kill [40]) .skip)))
  (.seq (.seq (.post (.reg [⟨(some 41), .op (.mv (.tmp 8)), none⟩,
    ⟨(some 42), .op (.mv (.tmp 7)), none⟩,
    ⟨(some 43), .op (.bin .neq (.tmp 41) (.tmp 42)), none⟩]) (.kill [8, 41, 42]))
  (.cond (.tmp 43) (.ghost (.kill [0, 3, 4, 5, 7, 43]) (.seq (.reg [⟨(some 2), .op (.mv (.const (Value.bool false))), none⟩])
  .ret))
  (.ghost (.kill [43]) .skip)))
  (.seq (.post (.reg [⟨(some 45), .op (.mv (.tmp 0)), none⟩,
    ⟨(some 46), .call (.func i_impl_UnwrapRewriter) [(.tmp 45)], none⟩,
    ⟨(some 44), .op (.mv (.tmp 46)), none⟩,
    ⟨(some 47), .op (.ext (.tmp 44) 0), none⟩,
    ⟨(some 48), .op (.ext (.tmp 44) 1), none⟩,
    ⟨(some 9), .op (.alloc (Value.agg #[Value.int .i64 0, Value.int .i64 0, Value.slice none 0 0, Value.slice none 0 0, Value.slice none 0 0])), none⟩,
    ⟨none, .op (.store 5 (.tmp 9) (.tmp 47)), none⟩,
    ⟨(some 10), .op (.mv (.tmp 48)), none⟩]) (.kill [0, 44, 45, 46, 47, 48]))
  (.seq (.seq (.post (.reg [⟨(some 49), .op (.load 5 true (.tmp 9)), none⟩,
    ⟨(some 50), .op (.load 5 true (.tmp 3)), none⟩,
    ⟨(some 51), .call (.func i_laws_eqRewriter) [(.tmp 49), (.tmp 50)], none⟩,
    ⟨(some 52), .op (.un .not (.tmp 51)), none⟩,
    ⟨(some 53), .op (.mv (.tmp 52)), none⟩,
    ⟨(some 54), .op (.mv (.tmp 10)), some (53, false)⟩,
    ⟨(some 55), .op (.mv (.tmp 4)), some (53, false)⟩,
    ⟨(some 56), .op (.bin .neq (.tmp 54) (.tmp 55)), some (53, false)⟩,
    ⟨(some 57), .op (.pick (.tmp 53) (.const (Value.bool true)) (.tmp 56)), none⟩]) (.kill [3, 4, 9, 10, 49, 50, 51, 52, 53, 54, 55, 56]))
  (.cond (.tmp 57) (.ghost (.kill [5, 7, 57]) (.seq (.reg [⟨(some 2), .op (.mv (.const (Value.bool false))), none⟩])
  .ret))
  (.ghost (.kill [57]) .skip)))
  (.seq (.reg [⟨(some 8), .op (.mv (.const (Value.int .i64 1))), none⟩])
  (.seq (.post (.reg [⟨(some 58), .op (.load 5 true (.tmp 5)), none⟩,
    ⟨(some 59), .op (.mv (.tmp 8)), none⟩,
    ⟨(some 60), .call (.func i_laws_heldRewriter) [(.tmp 58), (.tmp 59)], none⟩,
    ⟨(some 8), .op (.mv (.tmp 60)), none⟩]) (.kill [5, 58, 59, 60]))
  (.seq (.seq (.post (.reg [⟨(some 61), .op (.mv (.tmp 8)), none⟩,
    ⟨(some 62), .op (.bin .lss (.tmp 61) (.const (Value.int .i64 0))), none⟩]) (.kill [61]))
  (.cond (.tmp 62) (.ghost (.kill [7, 8, 62]) (.seq (.reg [⟨(some 2), .op (.mv (.const (Value.bool false))), none⟩])
  .ret))
  (.ghost (.kill [62]) .skip)))
  (.seq (.seq (.post (.reg [⟨(some 63), .op (.mv (.tmp 8)), none⟩,
    ⟨(some 64), .op (.mv (.tmp 7)), none⟩,
    ⟨(some 65), .op (.bin .neq (.tmp 63) (.tmp 64)), none⟩]) (.kill [7, 8, 63, 64]))
  (.cond (.tmp 65) (.ghost (.kill [65]) (.seq (.reg [⟨(some 2), .op (.mv (.const (Value.bool false))), none⟩])
  .ret))
  (.ghost (.kill [65]) .skip)))
  (.seq (.reg [⟨(some 2), .op (.mv (.const (Value.bool true))), none⟩])
  .ret))))))))))))))))))
theorem cf_laws_FnExactUnwrapRewriter : chkFn Try.prog i_laws_FnExactUnwrapRewriter ac_laws_FnExactUnwrapRewriter [.tmp 2] 66 = true := by decide +kernel
def fa_laws_FnExactUnwrapRewriter : FnA := ⟨ac_laws_FnExactUnwrapRewriter, [.tmp 2], 66, false, true⟩

/-- The checked code of laws a2Long. -/
def ac_laws_a2Long : AC := (.seq (.post (.reg [⟨(some 4), .op (.mv (.const (Value.bool false))), none⟩]) (.kill [4]))
  (.seq (.post (.reg [⟨(some 5), .op (.mv (.tmp 0)), none⟩,
    ⟨(some 6), .op (.len false (.tmp 5)), none⟩,
    ⟨(some 7), .op (.bin .gtr (.tmp 6) (.const (Value.int .i64 3000))), none⟩,
    ⟨(some 8), .op (.mv (.tmp 7)), none⟩,
    ⟨(some 9), .op (.mv (.tmp 1)), some (8, false)⟩,
    ⟨(some 10), .op (.len false (.tmp 9)), some (8, false)⟩,
    ⟨(some 11), .op (.bin .gtr (.tmp 10) (.const (Value.int .i64 3000))), some (8, false)⟩,
    ⟨(some 12), .op (.pick (.tmp 8) (.const (Value.bool true)) (.tmp 11)), none⟩,
    ⟨(some 4), .op (.mv (.tmp 12)), none⟩]) (.kill [0, 1, 5, 6, 7, 8, 9, 10, 11, 12]))
  .ret))
theorem cf_laws_a2Long : chkFn Try.prog i_laws_a2Long ac_laws_a2Long [.tmp 4] 13 = true := by decide +kernel
def fa_laws_a2Long : FnA := ⟨ac_laws_a2Long, [.tmp 4], 13, false, true⟩

/-- The checked code of spec l00From. -/
def ac_spec_l00From : AC := (.seq (.post (.reg [⟨(some 2), .op (.mv (.const (Value.pointer none))), none⟩]) (.kill [2]))
  (.seq (.post (.reg [⟨(some 3), .op (.mv (.tmp 0)), none⟩,
    ⟨(some 4), .op (.build [Value.slice none 0 0, Value.int .i64 0, Value.int .u64 0] [(0, 1, (.tmp 3))]), none⟩,
    ⟨(some 5), .op (.box true (.tmp 4)), none⟩,
    ⟨(some 2), .op (.mv (.tmp 5)), none⟩]) (.kill [0, 3, 4, 5]))
  .ret))
theorem cf_spec_l00From : chkFn Try.prog i_spec_l00From ac_spec_l00From [.tmp 2] 6 = true := by decide +kernel
def fa_spec_l00From : FnA := ⟨ac_spec_l00From, [.tmp 2], 6, false, true⟩

/-- The checked code of spec l00Src  next. -/
def ac_P_spec_l00Src_next : AC := (.seq (.post (.reg [⟨(some 2), .op (.mv (.const (Value.int .i64 0))), none⟩]) (.kill [2]))
  (.seq (.reg [⟨(some 3), .op (.mv (.const (Value.int .i64 0))), none⟩])
  (.seq (.seq (.post (.draw [⟨0, ⟨(some 4), .op (.mv (.tmp 0)), none⟩, []⟩,
    ⟨1, ⟨(some 5), .op (.nilc (.tmp 4)), none⟩, []⟩,
    ⟨2, ⟨(some 6), .op (.faddr (.tmp 5) 1), none⟩, []⟩,
    ⟨3, ⟨(some 7), .op (.load 1 false (.tmp 6)), none⟩, []⟩,
    ⟨4, ⟨(some 8), .op (.mv (.tmp 0)), none⟩, []⟩,
    ⟨5, ⟨(some 9), .op (.nilc (.tmp 8)), none⟩, []⟩,
    ⟨6, ⟨(some 10), .op (.faddr (.tmp 9) 0), none⟩, []⟩,
    ⟨7, ⟨(some 11), .op (.load 1 false (.tmp 10)), none⟩, []⟩,
    ⟨8, ⟨(some 12), .op (.len false (.tmp 11)), none⟩, []⟩,
    ⟨9, ⟨(some 13), .op (.bin .lss (.tmp 7) (.tmp 12)), none⟩, []⟩]
    [0, 1, 3, 7, 0, 16, 48, 112, 240, 511]) (.kill [4, 5, 6, 7, 8, 9, 10, 11, 12]))
  (.cond (.tmp 13) (.ghost (.kill [3, 13]) (.post (.draw [⟨0, ⟨(some 14), .op (.mv (.tmp 0)), none⟩, []⟩,
    ⟨1, ⟨(some 15), .op (.nilc (.tmp 14)), none⟩, []⟩,
    ⟨2, ⟨(some 16), .op (.faddr (.tmp 15) 0), none⟩, []⟩,
    ⟨3, ⟨(some 17), .op (.load 1 false (.tmp 16)), none⟩, []⟩,
    ⟨4, ⟨(some 18), .op (.mv (.tmp 0)), none⟩, []⟩,
    ⟨5, ⟨(some 19), .op (.nilc (.tmp 18)), none⟩, []⟩,
    ⟨6, ⟨(some 20), .op (.faddr (.tmp 19) 1), none⟩, []⟩,
    ⟨7, ⟨(some 21), .op (.load 1 false (.tmp 20)), none⟩, []⟩,
    ⟨8, ⟨(some 22), .op (.iaddrS (.tmp 17) (.tmp 21) 1), none⟩, []⟩,
    ⟨9, ⟨(some 23), .op (.load 1 false (.tmp 22)), none⟩, []⟩,
    ⟨10, ⟨(some 24), .op (.conv .i64 (.tmp 23)), none⟩, []⟩,
    ⟨11, ⟨(some 3), .op (.mv (.tmp 24)), none⟩, []⟩]
    [0, 1, 3, 7, 0, 16, 48, 112, 255, 511, 1023, 2047]) (.kill [14, 15, 16, 17, 18, 19, 20, 21, 22, 23, 24])))
  (.ghost (.kill [13]) .skip)))
  (.seq (.post (.reg [⟨(some 25), .op (.mv (.tmp 0)), none⟩,
    ⟨(some 26), .op (.nilc (.tmp 25)), none⟩,
    ⟨(some 27), .op (.faddr (.tmp 26) 1), none⟩,
    ⟨(some 28), .op (.load 1 false (.tmp 27)), none⟩,
    ⟨(some 29), .op (.bin .add (.tmp 28) (.const (Value.int .i64 1))), none⟩,
    ⟨(some 30), .op (.nilc (.tmp 25)), none⟩,
    ⟨(some 31), .op (.faddr (.tmp 30) 1), none⟩,
    ⟨none, .op (.store 1 (.tmp 31) (.tmp 29)), none⟩]) (.kill [25, 26, 27, 28, 29, 30, 31]))
  (.seq (.post (.reg [⟨(some 32), .op (.mv (.tmp 0)), none⟩,
    ⟨(some 33), .op (.mv (.tmp 0)), none⟩,
    ⟨(some 34), .op (.nilc (.tmp 33)), none⟩,
    ⟨(some 35), .op (.faddr (.tmp 34) 2), none⟩,
    ⟨(some 36), .op (.load 1 false (.tmp 35)), none⟩,
    ⟨(some 37), .op (.bin .mul (.tmp 36) (.const (Value.int .u64 6364136223846793005))), none⟩,
    ⟨(some 38), .op (.mv (.tmp 3)), none⟩,
    ⟨(some 39), .op (.conv .u64 (.tmp 38)), none⟩,
    ⟨(some 40), .op (.bin .add (.tmp 37) (.tmp 39)), none⟩,
    ⟨(some 41), .op (.bin .add (.tmp 40) (.const (Value.int .u64 1442695040888963407))), none⟩,
    ⟨(some 42), .op (.nilc (.tmp 32)), none⟩,
    ⟨(some 43), .op (.faddr (.tmp 42) 2), none⟩,
    ⟨none, .op (.store 1 (.tmp 43) (.tmp 41)), none⟩]) (.kill [32, 33, 34, 35, 36, 37, 38, 39, 40, 41, 42, 43]))
  (.seq (.seq (.post (.draw [⟨0, ⟨(some 44), .op (.mv (.tmp 0)), none⟩, []⟩,
    ⟨1, ⟨(some 45), .op (.nilc (.tmp 44)), none⟩, []⟩,
    ⟨2, ⟨(some 46), .op (.faddr (.tmp 45) 1), none⟩, []⟩,
    ⟨3, ⟨(some 47), .op (.load 1 false (.tmp 46)), none⟩, []⟩,
    ⟨4, ⟨(some 48), .op (.mv (.tmp 0)), none⟩, []⟩,
    ⟨5, ⟨(some 49), .op (.nilc (.tmp 48)), none⟩, []⟩,
    ⟨6, ⟨(some 50), .op (.faddr (.tmp 49) 0), none⟩, []⟩,
    ⟨7, ⟨(some 51), .op (.load 1 false (.tmp 50)), none⟩, []⟩,
    ⟨8, ⟨(some 52), .op (.len false (.tmp 51)), none⟩, []⟩,
    ⟨9, ⟨(some 53), .op (.bin .leq (.tmp 47) (.tmp 52)), none⟩, []⟩]
    [0, 1, 3, 7, 0, 16, 48, 112, 240, 511]) (.kill [44, 45, 46, 47, 48, 49, 50, 51, 52]))
  (.cond (.tmp 53) (.ghost (.kill [0, 53]) (.seq (.post (.reg [⟨(some 54), .op (.mv (.tmp 3)), none⟩,
    ⟨(some 2), .op (.mv (.tmp 54)), none⟩]) (.kill [3, 54]))
  .ret))
  (.ghost (.kill [3, 53]) .skip)))
  (.seq (.post (.reg [⟨(some 55), .op (.mv (.tmp 0)), none⟩,
    ⟨(some 56), .op (.nilc (.tmp 55)), none⟩,
    ⟨(some 57), .op (.faddr (.tmp 56) 2), none⟩,
    ⟨(some 58), .op (.load 1 false (.tmp 57)), none⟩,
    ⟨(some 59), .op (.bin .shr (.tmp 58) (.const (Value.int .u64 40))), none⟩,
    ⟨(some 60), .op (.bin .and (.tmp 59) (.const (Value.int .u64 255))), none⟩,
    ⟨(some 61), .op (.conv .i64 (.tmp 60)), none⟩,
    ⟨(some 2), .op (.mv (.tmp 61)), none⟩]) (.kill [0, 55, 56, 57, 58, 59, 60, 61]))
  .ret)))))))
theorem cf_P_spec_l00Src_next : chkFn Try.prog i_P_spec_l00Src_next ac_P_spec_l00Src_next [.tmp 2] 62 = true := by decide +kernel
def fa_P_spec_l00Src_next : FnA := ⟨ac_P_spec_l00Src_next, [.tmp 2], 62, true, false⟩

/-- The checked code of spec l00Src  pick. -/
def ac_P_spec_l00Src_pick : AC := (.seq (.post (.reg [⟨(some 4), .op (.mv (.const (Value.int .i64 0))), none⟩]) (.kill [4]))
  (.seq (.seq (.post (.reg [⟨(some 6), .op (.mv (.tmp 1)), none⟩,
    ⟨(some 7), .op (.bin .leq (.tmp 6) (.const (Value.int .i64 1))), none⟩]) (.kill [6]))
  (.cond (.tmp 7) (.ghost (.kill [0, 1, 7]) (.seq (.reg [⟨(some 4), .op (.mv (.const (Value.int .i64 0))), none⟩])
  .ret))
  (.ghost (.kill [7]) .skip)))
  (.seq (.post (.reg [⟨(some 8), .op (.mv (.tmp 0)), none⟩,
    ⟨(some 9), .call (.func i_P_spec_l00Src_next) [(.tmp 8)], none⟩,
    ⟨(some 5), .op (.mv (.tmp 9)), none⟩]) (.kill [8, 9]))
  (.seq (.seq (.post (.reg [⟨(some 10), .op (.mv (.tmp 1)), none⟩,
    ⟨(some 11), .op (.bin .gtr (.tmp 10) (.const (Value.int .i64 200))), none⟩]) (.kill [10]))
  (.cond (.tmp 11) (.ghost (.kill [11]) (.post (.reg [⟨(some 12), .op (.mv (.tmp 5)), none⟩,
    ⟨(some 13), .op (.bin .mul (.tmp 12) (.const (Value.int .i64 256))), none⟩,
    ⟨(some 14), .op (.mv (.tmp 0)), none⟩,
    ⟨(some 15), .call (.func i_P_spec_l00Src_next) [(.tmp 14)], none⟩,
    ⟨(some 16), .op (.bin .add (.tmp 13) (.tmp 15)), none⟩,
    ⟨(some 5), .op (.mv (.tmp 16)), none⟩]) (.kill [0, 12, 13, 14, 15, 16])))
  (.ghost (.kill [0, 11]) .skip)))
  (.seq (.post (.reg [⟨(some 17), .op (.mv (.tmp 5)), none⟩,
    ⟨(some 18), .op (.mv (.tmp 1)), none⟩,
    ⟨(some 19), .op (.bin .rem (.tmp 17) (.tmp 18)), none⟩,
    ⟨(some 4), .op (.mv (.tmp 19)), none⟩]) (.kill [1, 5, 17, 18, 19]))
  .ret)))))
theorem cf_P_spec_l00Src_pick : chkFn Try.prog i_P_spec_l00Src_pick ac_P_spec_l00Src_pick [.tmp 4] 20 = true := by decide +kernel
def fa_P_spec_l00Src_pick : FnA := ⟨ac_P_spec_l00Src_pick, [.tmp 4], 20, true, false⟩

/-- The checked code of spec l00Src  one. -/
def ac_P_spec_l00Src_one : AC := (.seq (.post (.reg [⟨(some 4), .op (.mv (.const (Value.bool false))), none⟩]) (.kill [4]))
  (.seq (.post (.reg [⟨(some 5), .op (.mv (.tmp 0)), none⟩,
    ⟨(some 6), .op (.mv (.tmp 1)), none⟩,
    ⟨(some 7), .call (.func i_P_spec_l00Src_pick) [(.tmp 5), (.tmp 6)], none⟩,
    ⟨(some 8), .op (.bin .eql (.tmp 7) (.const (Value.int .i64 0))), none⟩,
    ⟨(some 4), .op (.mv (.tmp 8)), none⟩]) (.kill [0, 1, 5, 6, 7, 8]))
  .ret))
theorem cf_P_spec_l00Src_one : chkFn Try.prog i_P_spec_l00Src_one ac_P_spec_l00Src_one [.tmp 4] 9 = true := by decide +kernel
def fa_P_spec_l00Src_one : FnA := ⟨ac_P_spec_l00Src_one, [.tmp 4], 9, true, false⟩

/-- The checked code of spec MatchedChecker. -/
def ac_spec_MatchedChecker : AC := (.seq (.reg [⟨(some 0), .op (.alloc (Value.agg #[Value.int .i64 0, Value.int .i64 0, Value.slice none 0 0, Value.slice none 0 0, Value.slice none 0 0, Value.slice none 0 0])), none⟩])
  (.seq (.post (.reg [⟨(some 1), .op (.lits false 1 3 (Value.bool false) [(0, (.const (Value.bool true))), (1, (.const (Value.bool false))), (2, (.const (Value.bool false)))]), none⟩,
    ⟨(some 2), .op (.build [Value.int .i64 0, Value.int .i64 0] [(0, 1, (.const (Value.int .i64 1))), (1, 1, (.const (Value.int .i64 0)))]), none⟩,
    ⟨(some 3), .op (.build [Value.int .i64 0, Value.int .i64 0] [(0, 1, (.const (Value.int .i64 1))), (1, 1, (.const (Value.int .i64 0)))]), none⟩,
    ⟨(some 4), .op (.lits false 2 2 (Value.agg #[Value.int .i64 0, Value.int .i64 0]) [(0, (.tmp 2)), (1, (.tmp 3))]), none⟩,
    ⟨(some 5), .op (.build [Value.int .i64 0, Value.int .i64 0] [(0, 1, (.const (Value.int .i64 1))), (1, 1, (.const (Value.int .i64 1)))]), none⟩,
    ⟨(some 6), .op (.build [Value.int .i64 0, Value.int .i64 0] [(0, 1, (.const (Value.int .i64 1))), (1, 1, (.const (Value.int .i64 1)))]), none⟩,
    ⟨(some 7), .op (.lits false 2 2 (Value.agg #[Value.int .i64 0, Value.int .i64 0]) [(0, (.tmp 5)), (1, (.tmp 6))]), none⟩,
    ⟨(some 8), .op (.build [Value.int .i64 0, Value.int .i64 0] [(0, 1, (.const (Value.int .i64 2))), (1, 1, (.const (Value.int .i64 0)))]), none⟩,
    ⟨(some 9), .op (.build [Value.int .i64 0, Value.int .i64 0] [(0, 1, (.const (Value.int .i64 2))), (1, 1, (.const (Value.int .i64 0)))]), none⟩,
    ⟨(some 10), .op (.lits false 2 2 (Value.agg #[Value.int .i64 0, Value.int .i64 0]) [(0, (.tmp 8)), (1, (.tmp 9))]), none⟩,
    ⟨(some 11), .op (.lits false 1 3 (Value.slice none 0 0) [(0, (.tmp 4)), (1, (.tmp 7)), (2, (.tmp 10))]), none⟩,
    ⟨(some 12), .op (.lits false 1 3 (Value.int .i64 0) [(0, (.const (Value.int .i64 2))), (1, (.const (Value.int .i64 2))), (2, (.const (Value.int .i64 2)))]), none⟩,
    ⟨(some 13), .op (.lits false 1 3 (Value.int .i64 0) [(0, (.const (Value.int .i64 2))), (1, (.const (Value.int .i64 2))), (2, (.const (Value.int .i64 2)))]), none⟩,
    ⟨(some 14), .op (.lits false 1 2 (Value.slice none 0 0) [(0, (.tmp 12)), (1, (.tmp 13))]), none⟩,
    ⟨(some 15), .op (.lits false 1 3 (Value.int .i64 0) [(0, (.const (Value.int .i64 0))), (1, (.const (Value.int .i64 1))), (2, (.const (Value.int .i64 2)))]), none⟩,
    ⟨(some 16), .op (.lits false 1 3 (Value.int .i64 0) [(0, (.const (Value.int .i64 0))), (1, (.const (Value.int .i64 1))), (2, (.const (Value.int .i64 2)))]), none⟩,
    ⟨(some 17), .op (.lits false 1 2 (Value.slice none 0 0) [(0, (.tmp 15)), (1, (.tmp 16))]), none⟩,
    ⟨(some 18), .op (.lits false 1 3 (Value.int .i64 0) [(0, (.const (Value.int .i64 2))), (1, (.const (Value.int .i64 2))), (2, (.const (Value.int .i64 2)))]), none⟩,
    ⟨(some 19), .op (.lits false 1 3 (Value.int .i64 0) [(0, (.const (Value.int .i64 2))), (1, (.const (Value.int .i64 2))), (2, (.const (Value.int .i64 2)))]), none⟩,
    ⟨(some 20), .op (.lits false 1 2 (Value.slice none 0 0) [(0, (.tmp 18)), (1, (.tmp 19))]), none⟩,
    ⟨(some 21), .op (.lits false 1 3 (Value.slice none 0 0) [(0, (.tmp 14)), (1, (.tmp 17)), (2, (.tmp 20))]), none⟩,
    ⟨(some 22), .op (.lits false 1 2 (Value.int .i64 0) [(0, (.const (Value.int .i64 0))), (1, (.const (Value.int .i64 0)))]), none⟩,
    ⟨(some 23), .op (.lits false 1 2 (Value.int .i64 0) [(0, (.const (Value.int .i64 1))), (1, (.const (Value.int .i64 1)))]), none⟩,
    ⟨(some 24), .op (.lits false 1 2 (Value.int .i64 0) [(0, (.const (Value.int .i64 2))), (1, (.const (Value.int .i64 2)))]), none⟩,
    ⟨(some 25), .op (.lits false 1 3 (Value.slice none 0 0) [(0, (.tmp 22)), (1, (.tmp 23)), (2, (.tmp 24))]), none⟩,
    ⟨(some 26), .op (.build [Value.int .i64 0, Value.int .i64 0, Value.slice none 0 0, Value.slice none 0 0, Value.slice none 0 0, Value.slice none 0 0] [(0, 1, (.const (Value.int .i64 2))), (2, 1, (.tmp 1)), (3, 1, (.tmp 11)), (4, 1, (.tmp 21)), (5, 1, (.tmp 25))]), none⟩,
    ⟨none, .op (.store 6 (.tmp 0) (.tmp 26)), none⟩]) (.kill [1, 2, 3, 4, 5, 6, 7, 8, 9, 10, 11, 12, 13, 14, 15, 16, 17, 18, 19, 20, 21, 22, 23, 24, 25, 26]))
  .ret))
theorem cf_spec_MatchedChecker : chkFn Try.prog i_spec_MatchedChecker ac_spec_MatchedChecker [.cell 0 6 true] 27 = true := by decide +kernel
def fa_spec_MatchedChecker : FnA := ⟨ac_spec_MatchedChecker, [.cell 0 6 true], 27, false, true⟩

/-- The checked code of spec KindsChecker. -/
def ac_spec_KindsChecker : AC := (.seq (.reg [⟨(some 0), .op (.alloc (Value.agg #[Value.int .i64 0, Value.int .i64 0, Value.slice none 0 0, Value.slice none 0 0, Value.slice none 0 0, Value.slice none 0 0])), none⟩])
  (.seq (.post (.reg [⟨(some 1), .op (.lits false 1 2 (Value.bool false) [(0, (.const (Value.bool true))), (1, (.const (Value.bool false)))]), none⟩,
    ⟨(some 2), .op (.build [Value.int .i64 0, Value.int .i64 0] [(0, 1, (.const (Value.int .i64 0))), (1, 1, (.const (Value.int .i64 0)))]), none⟩,
    ⟨(some 3), .op (.build [Value.int .i64 0, Value.int .i64 0] [(0, 1, (.const (Value.int .i64 0))), (1, 1, (.const (Value.int .i64 1)))]), none⟩,
    ⟨(some 4), .op (.lits false 2 2 (Value.agg #[Value.int .i64 0, Value.int .i64 0]) [(0, (.tmp 2)), (1, (.tmp 3))]), none⟩,
    ⟨(some 5), .op (.build [Value.int .i64 0, Value.int .i64 0] [(0, 1, (.const (Value.int .i64 1))), (1, 1, (.const (Value.int .i64 0)))]), none⟩,
    ⟨(some 6), .op (.build [Value.int .i64 0, Value.int .i64 0] [(0, 1, (.const (Value.int .i64 1))), (1, 1, (.const (Value.int .i64 1)))]), none⟩,
    ⟨(some 7), .op (.lits false 2 2 (Value.agg #[Value.int .i64 0, Value.int .i64 0]) [(0, (.tmp 5)), (1, (.tmp 6))]), none⟩,
    ⟨(some 8), .op (.lits false 1 2 (Value.slice none 0 0) [(0, (.tmp 4)), (1, (.tmp 7))]), none⟩,
    ⟨(some 9), .op (.lits false 1 3 (Value.int .i64 0) [(0, (.const (Value.int .i64 0))), (1, (.const (Value.int .i64 1))), (2, (.const (Value.int .i64 0)))]), none⟩,
    ⟨(some 10), .op (.lits false 1 3 (Value.int .i64 0) [(0, (.const (Value.int .i64 1))), (1, (.const (Value.int .i64 0))), (2, (.const (Value.int .i64 0)))]), none⟩,
    ⟨(some 11), .op (.lits false 1 2 (Value.slice none 0 0) [(0, (.tmp 9)), (1, (.tmp 10))]), none⟩,
    ⟨(some 12), .op (.lits false 1 3 (Value.int .i64 0) [(0, (.const (Value.int .i64 1))), (1, (.const (Value.int .i64 1))), (2, (.const (Value.int .i64 1)))]), none⟩,
    ⟨(some 13), .op (.lits false 1 3 (Value.int .i64 0) [(0, (.const (Value.int .i64 1))), (1, (.const (Value.int .i64 1))), (2, (.const (Value.int .i64 1)))]), none⟩,
    ⟨(some 14), .op (.lits false 1 2 (Value.slice none 0 0) [(0, (.tmp 12)), (1, (.tmp 13))]), none⟩,
    ⟨(some 15), .op (.lits false 1 2 (Value.slice none 0 0) [(0, (.tmp 11)), (1, (.tmp 14))]), none⟩,
    ⟨(some 16), .op (.lits false 1 2 (Value.int .i64 0) [(0, (.const (Value.int .i64 0))), (1, (.const (Value.int .i64 0)))]), none⟩,
    ⟨(some 17), .op (.lits false 1 2 (Value.int .i64 0) [(0, (.const (Value.int .i64 1))), (1, (.const (Value.int .i64 1)))]), none⟩,
    ⟨(some 18), .op (.lits false 1 2 (Value.slice none 0 0) [(0, (.tmp 16)), (1, (.tmp 17))]), none⟩,
    ⟨(some 19), .op (.build [Value.int .i64 0, Value.int .i64 0, Value.slice none 0 0, Value.slice none 0 0, Value.slice none 0 0, Value.slice none 0 0] [(0, 1, (.const (Value.int .i64 2))), (2, 1, (.tmp 1)), (3, 1, (.tmp 8)), (4, 1, (.tmp 15)), (5, 1, (.tmp 18))]), none⟩,
    ⟨none, .op (.store 6 (.tmp 0) (.tmp 19)), none⟩]) (.kill [1, 2, 3, 4, 5, 6, 7, 8, 9, 10, 11, 12, 13, 14, 15, 16, 17, 18, 19]))
  .ret))
theorem cf_spec_KindsChecker : chkFn Try.prog i_spec_KindsChecker ac_spec_KindsChecker [.cell 0 6 true] 20 = true := by decide +kernel
def fa_spec_KindsChecker : FnA := ⟨ac_spec_KindsChecker, [.cell 0 6 true], 20, false, true⟩

/-- The checked code of spec l00Max. -/
def ac_spec_l00Max : AC := (.seq (.post (.reg [⟨(some 4), .op (.mv (.const (Value.int .i64 0))), none⟩]) (.kill [4]))
  (.seq (.seq (.post (.reg [⟨(some 5), .op (.mv (.tmp 0)), none⟩,
    ⟨(some 6), .op (.mv (.tmp 1)), none⟩,
    ⟨(some 7), .op (.bin .gtr (.tmp 5) (.tmp 6)), none⟩]) (.kill [5, 6]))
  (.cond (.tmp 7) (.ghost (.kill [1, 7]) (.seq (.post (.reg [⟨(some 8), .op (.mv (.tmp 0)), none⟩,
    ⟨(some 4), .op (.mv (.tmp 8)), none⟩]) (.kill [0, 8]))
  .ret))
  (.ghost (.kill [0, 7]) .skip)))
  (.seq (.post (.reg [⟨(some 9), .op (.mv (.tmp 1)), none⟩,
    ⟨(some 4), .op (.mv (.tmp 9)), none⟩]) (.kill [1, 9]))
  .ret)))
theorem cf_spec_l00Max : chkFn Try.prog i_spec_l00Max ac_spec_l00Max [.tmp 4] 10 = true := by decide +kernel
def fa_spec_l00Max : FnA := ⟨ac_spec_l00Max, [.tmp 4], 10, false, true⟩

/-- The checked code of spec l02Same. -/
def lb_spec_l02Same_0 : AC := (.post (.seq (.seq (.post (.reg [⟨(some 8), .op (.mv (.tmp 6)), none⟩,
    ⟨(some 9), .op (.mv (.tmp 1)), none⟩,
    ⟨(some 10), .op (.bin .lss (.tmp 8) (.tmp 9)), none⟩]) (.kill [8, 9]))
  (.cond (.tmp 10) (.ghost (.kill [10]) .skip)
  (.ghost (.kill [0, 1, 6, 10]) (.exit 0))))
  (.seq (.block 1 (.post (.reg [⟨(some 13), .op (.mv (.tmp 5)), none⟩,
    ⟨(some 14), .op (.mv (.tmp 0)), none⟩,
    ⟨(some 15), .op (.lits true 1 1 (Value.int .i64 0) [(0, (.tmp 14))]), none⟩,
    ⟨(some 16), .op (.append (.tmp 13) (.tmp 15) 1 8), none⟩,
    ⟨(some 5), .op (.mv (.tmp 16)), none⟩]) (.kill [13, 14, 15, 16])))
  (.post (.reg [⟨(some 11), .op (.mv (.tmp 6)), none⟩,
    ⟨(some 12), .op (.bin .add (.tmp 11) (.const (Value.int .i64 1))), none⟩,
    ⟨(some 6), .op (.mv (.tmp 12)), none⟩]) (.kill [11, 12])))) .nv)
def lo_spec_l02Same_0 : AC := (.loop lb_spec_l02Same_0)
def ac_spec_l02Same : AC := (.seq (.post (.reg [⟨(some 4), .op (.mv (.const (Value.slice none 0 0))), none⟩]) (.kill [4]))
  (.seq (.post (.reg [⟨(some 7), .op (.lits true 1 0 (Value.int .i64 0) []), none⟩,
    ⟨(some 5), .op (.mv (.tmp 7)), none⟩]) (.kill [7]))
  (.seq (.seq (.reg [⟨(some 6), .op (.mv (.const (Value.int .i64 0))), none⟩])
  (.post (.block 0 (.ghost .nv lo_spec_l02Same_0)) .nv))
  (.ghost (.kill [0, 1, 6]) (.seq (.post (.reg [⟨(some 17), .op (.mv (.tmp 5)), none⟩,
    ⟨(some 4), .op (.mv (.tmp 17)), none⟩]) (.kill [5, 17]))
  .ret)))))
theorem cf_spec_l02Same : chkFn Try.prog i_spec_l02Same ac_spec_l02Same [.tmp 4] 18 = true := by decide +kernel
def fa_spec_l02Same : FnA := ⟨ac_spec_l02Same, [.tmp 4], 18, false, true⟩

/-- The checked code of spec l02Plain. -/
def ac_spec_l02Plain : AC := (.seq (.post (.reg [⟨(some 6), .op (.mv (.tmp 0)), none⟩,
    ⟨(some 7), .op (.mv (.tmp 0)), none⟩,
    ⟨(some 8), .op (.nilc (.tmp 7)), none⟩,
    ⟨(some 9), .op (.faddr (.tmp 8) 2), none⟩,
    ⟨(some 10), .op (.load 1 false (.tmp 9)), none⟩,
    ⟨(some 11), .op (.mv (.tmp 1)), none⟩,
    ⟨(some 12), .op (.lits true 1 1 (Value.bool false) [(0, (.tmp 11))]), none⟩,
    ⟨(some 13), .op (.append (.tmp 10) (.tmp 12) 1 1), none⟩,
    ⟨(some 14), .op (.nilc (.tmp 6)), none⟩,
    ⟨(some 15), .op (.faddr (.tmp 14) 2), none⟩,
    ⟨none, .op (.store 1 (.tmp 15) (.tmp 13)), none⟩]) (.kill [1, 6, 7, 8, 9, 10, 11, 12, 13, 14, 15]))
  (.seq (.post (.draw [⟨0, ⟨(some 16), .op (.mv (.tmp 0)), none⟩, []⟩,
    ⟨1, ⟨(some 17), .op (.mv (.tmp 0)), none⟩, []⟩,
    ⟨2, ⟨(some 18), .op (.nilc (.tmp 17)), none⟩, []⟩,
    ⟨3, ⟨(some 19), .op (.faddr (.tmp 18) 3), none⟩, []⟩,
    ⟨4, ⟨(some 20), .op (.load 1 false (.tmp 19)), none⟩, []⟩,
    ⟨5, ⟨(some 21), .op (.mv (.tmp 2)), none⟩, []⟩,
    ⟨6, ⟨(some 22), .op (.iaddrS (.tmp 21) (.const (Value.int .i64 0)) 1), none⟩, []⟩,
    ⟨7, ⟨(some 23), .op (.load 1 false (.tmp 22)), none⟩, []⟩,
    ⟨8, ⟨(some 24), .op (.build [Value.int .i64 0, Value.int .i64 0] [(0, 1, (.tmp 23))]), none⟩, []⟩,
    ⟨9, ⟨(some 25), .op (.mv (.tmp 2)), none⟩, []⟩,
    ⟨10, ⟨(some 26), .op (.iaddrS (.tmp 25) (.const (Value.int .i64 1)) 1), none⟩, []⟩,
    ⟨11, ⟨(some 27), .op (.load 1 false (.tmp 26)), none⟩, []⟩,
    ⟨12, ⟨(some 28), .op (.build [Value.int .i64 0, Value.int .i64 0] [(0, 1, (.tmp 27))]), none⟩, []⟩,
    ⟨13, ⟨(some 29), .op (.lits false 2 2 (Value.agg #[Value.int .i64 0, Value.int .i64 0]) [(0, (.tmp 24)), (1, (.tmp 28))]), none⟩, [4]⟩,
    ⟨14, ⟨(some 30), .op (.lits true 1 1 (Value.slice none 0 0) [(0, (.tmp 29))]), none⟩, []⟩,
    ⟨15, ⟨(some 31), .op (.append (.tmp 20) (.tmp 30) 1 24), none⟩, []⟩,
    ⟨16, ⟨(some 32), .op (.nilc (.tmp 16)), none⟩, []⟩,
    ⟨17, ⟨(some 33), .op (.faddr (.tmp 32) 3), none⟩, []⟩,
    ⟨18, ⟨none, .op (.store 1 (.tmp 33) (.tmp 31)), none⟩, []⟩]
    [0, 0, 2, 6, 14, 0, 32, 96, 224, 0, 512, 1536, 3584, 8160, 16352, 32766, 65535, 131071, 262143]) (.kill [16, 17, 18, 19, 20, 21, 22, 23, 24, 25, 26, 27, 28, 29, 30, 31, 32, 33]))
  (.seq (.post (.draw [⟨0, ⟨(some 34), .op (.mv (.tmp 0)), none⟩, []⟩,
    ⟨1, ⟨(some 35), .op (.mv (.tmp 0)), none⟩, []⟩,
    ⟨2, ⟨(some 36), .op (.nilc (.tmp 35)), none⟩, []⟩,
    ⟨3, ⟨(some 37), .op (.faddr (.tmp 36) 4), none⟩, []⟩,
    ⟨4, ⟨(some 38), .op (.load 1 false (.tmp 37)), none⟩, []⟩,
    ⟨5, ⟨(some 39), .op (.mv (.tmp 2)), none⟩, []⟩,
    ⟨6, ⟨(some 40), .op (.iaddrS (.tmp 39) (.const (Value.int .i64 2)) 1), none⟩, []⟩,
    ⟨7, ⟨(some 41), .op (.load 1 false (.tmp 40)), none⟩, []⟩,
    ⟨8, ⟨(some 42), .op (.mv (.tmp 0)), none⟩, []⟩,
    ⟨9, ⟨(some 43), .op (.nilc (.tmp 42)), none⟩, []⟩,
    ⟨10, ⟨(some 44), .op (.faddr (.tmp 43) 0), none⟩, []⟩,
    ⟨11, ⟨(some 45), .op (.load 1 false (.tmp 44)), none⟩, []⟩,
    ⟨12, ⟨(some 46), .op (.bin .add (.tmp 45) (.const (Value.int .i64 1))), none⟩, []⟩,
    ⟨14, ⟨(some 48), .op (.mv (.tmp 2)), none⟩, []⟩,
    ⟨15, ⟨(some 49), .op (.iaddrS (.tmp 48) (.const (Value.int .i64 3)) 1), none⟩, []⟩,
    ⟨16, ⟨(some 50), .op (.load 1 false (.tmp 49)), none⟩, []⟩,
    ⟨17, ⟨(some 51), .op (.mv (.tmp 0)), none⟩, []⟩,
    ⟨18, ⟨(some 52), .op (.nilc (.tmp 51)), none⟩, []⟩,
    ⟨19, ⟨(some 53), .op (.faddr (.tmp 52) 0), none⟩, []⟩,
    ⟨20, ⟨(some 54), .op (.load 1 false (.tmp 53)), none⟩, []⟩,
    ⟨21, ⟨(some 55), .op (.bin .add (.tmp 54) (.const (Value.int .i64 1))), none⟩, []⟩,
    ⟨13, ⟨(some 47), .call (.func i_spec_l02Same) [(.tmp 41), (.tmp 46)], none⟩, [4, 15, 16, 20]⟩,
    ⟨22, ⟨(some 56), .call (.func i_spec_l02Same) [(.tmp 50), (.tmp 55)], none⟩, [4]⟩,
    ⟨23, ⟨(some 57), .op (.lits false 1 2 (Value.slice none 0 0) [(0, (.tmp 47)), (1, (.tmp 56))]), none⟩, [4]⟩,
    ⟨24, ⟨(some 58), .op (.lits true 1 1 (Value.slice none 0 0) [(0, (.tmp 57))]), none⟩, []⟩,
    ⟨25, ⟨(some 59), .op (.append (.tmp 38) (.tmp 58) 1 24), none⟩, []⟩,
    ⟨26, ⟨(some 60), .op (.nilc (.tmp 34)), none⟩, []⟩,
    ⟨27, ⟨(some 61), .op (.faddr (.tmp 60) 4), none⟩, []⟩,
    ⟨28, ⟨none, .op (.store 1 (.tmp 61) (.tmp 59)), none⟩, []⟩]
    [0, 0, 2, 6, 14, 0, 32, 96, 0, 256, 768, 1792, 3840, 8160, 0, 16384, 49152, 0, 131072, 393216, 917504, 1966080, 4194272, 8388576, 16777184, 33554430, 67108863, 134217727, 268435455]) (.kill [34, 35, 36, 37, 38, 39, 40, 41, 42, 43, 44, 45, 46, 47, 48, 49, 50, 51, 52, 53, 54, 55, 56, 57, 58, 59, 60, 61]))
  (.post (.draw [⟨0, ⟨(some 62), .op (.mv (.tmp 0)), none⟩, []⟩,
    ⟨1, ⟨(some 63), .op (.mv (.tmp 0)), none⟩, []⟩,
    ⟨2, ⟨(some 64), .op (.nilc (.tmp 63)), none⟩, []⟩,
    ⟨3, ⟨(some 65), .op (.faddr (.tmp 64) 5), none⟩, []⟩,
    ⟨4, ⟨(some 66), .op (.load 1 false (.tmp 65)), none⟩, []⟩,
    ⟨5, ⟨(some 67), .op (.mv (.tmp 2)), none⟩, []⟩,
    ⟨6, ⟨(some 68), .op (.iaddrS (.tmp 67) (.const (Value.int .i64 4)) 1), none⟩, []⟩,
    ⟨7, ⟨(some 69), .op (.load 1 false (.tmp 68)), none⟩, []⟩,
    ⟨8, ⟨(some 70), .op (.mv (.tmp 2)), none⟩, []⟩,
    ⟨9, ⟨(some 71), .op (.iaddrS (.tmp 70) (.const (Value.int .i64 5)) 1), none⟩, []⟩,
    ⟨10, ⟨(some 72), .op (.load 1 false (.tmp 71)), none⟩, []⟩,
    ⟨11, ⟨(some 73), .op (.lits false 1 2 (Value.int .i64 0) [(0, (.tmp 69)), (1, (.tmp 72))]), none⟩, [4]⟩,
    ⟨12, ⟨(some 74), .op (.lits true 1 1 (Value.slice none 0 0) [(0, (.tmp 73))]), none⟩, []⟩,
    ⟨13, ⟨(some 75), .op (.append (.tmp 66) (.tmp 74) 1 24), none⟩, []⟩,
    ⟨14, ⟨(some 76), .op (.nilc (.tmp 62)), none⟩, []⟩,
    ⟨15, ⟨(some 77), .op (.faddr (.tmp 76) 5), none⟩, []⟩,
    ⟨16, ⟨none, .op (.store 1 (.tmp 77) (.tmp 75)), none⟩, []⟩]
    [0, 0, 2, 6, 14, 0, 32, 96, 0, 256, 768, 2016, 4064, 8190, 16383, 32767, 65535]) (.kill [0, 2, 62, 63, 64, 65, 66, 67, 68, 69, 70, 71, 72, 73, 74, 75, 76, 77])))))
theorem cf_spec_l02Plain : chkFn Try.prog i_spec_l02Plain ac_spec_l02Plain [] 78 = true := by decide +kernel
def fa_spec_l02Plain : FnA := ⟨ac_spec_l02Plain, [], 78, false, true⟩

/-- The checked code of spec DepthChecker. -/
def lb_spec_DepthChecker_0 : AC := (.post (.seq (.seq (.post (.reg [⟨(some 12), .op (.mv (.tmp 5)), none⟩,
    ⟨(some 13), .op (.mv (.tmp 0)), none⟩,
    ⟨(some 14), .op (.bin .leq (.tmp 12) (.tmp 13)), none⟩]) (.kill [12, 13]))
  (.cond (.tmp 14) (.ghost (.kill [14]) .skip)
  (.ghost (.kill [5, 14]) (.exit 0))))
  (.seq (.block 1 (.seq (.post (.reg [⟨(some 17), .op (.mv (.tmp 5)), none⟩,
    ⟨(some 18), .op (.bin .sub (.tmp 17) (.const (Value.int .i64 1))), none⟩,
    ⟨(some 19), .call (.func i_spec_l00Max) [(.tmp 18), (.const (Value.int .i64 0))], none⟩,
    ⟨(some 6), .op (.mv (.tmp 19)), none⟩]) (.kill [17, 18, 19]))
  (.post (.reg [⟨(some 20), .op (.mv (.tmp 5)), none⟩,
    ⟨(some 21), .op (.bin .add (.tmp 20) (.const (Value.int .i64 1))), none⟩,
    ⟨(some 22), .op (.mv (.tmp 5)), none⟩,
    ⟨(some 23), .op (.bin .add (.tmp 22) (.const (Value.int .i64 1))), none⟩,
    ⟨(some 24), .op (.mv (.tmp 6)), none⟩,
    ⟨(some 25), .op (.mv (.tmp 6)), none⟩,
    ⟨(some 26), .op (.mv (.tmp 5)), none⟩,
    ⟨(some 27), .op (.mv (.tmp 5)), none⟩,
    ⟨(some 28), .op (.lits false 1 6 (Value.int .i64 0) [(0, (.tmp 21)), (1, (.tmp 23)), (2, (.tmp 24)), (3, (.tmp 25)), (4, (.tmp 26)), (5, (.tmp 27))]), none⟩,
    ⟨(some 29), .call (.func i_spec_l02Plain) [(.tmp 4), (.const (Value.bool true)), (.tmp 28)], none⟩]) (.kill [6, 20, 21, 22, 23, 24, 25, 26, 27, 28, 29]))))
  (.post (.reg [⟨(some 15), .op (.mv (.tmp 5)), none⟩,
    ⟨(some 16), .op (.bin .add (.tmp 15) (.const (Value.int .i64 1))), none⟩,
    ⟨(some 5), .op (.mv (.tmp 16)), none⟩]) (.kill [15, 16])))) .nv)
def lo_spec_DepthChecker_0 : AC := (.loop lb_spec_DepthChecker_0)
def ac_spec_DepthChecker : AC := (.seq (.post (.reg [⟨(some 2), .op (.alloc (Value.agg #[Value.int .i64 0, Value.int .i64 0, Value.slice none 0 0, Value.slice none 0 0, Value.slice none 0 0, Value.slice none 0 0])), none⟩,
    ⟨(some 3), .op (.mv (.const (Value.int .i64 0))), none⟩]) (.kill [3]))
  (.seq (.seq (.post (.reg [⟨(some 7), .op (.mv (.tmp 0)), none⟩,
    ⟨(some 8), .call (.func i_spec_l00In) [(.tmp 7), (.const (Value.int .i64 0)), (.const (Value.int .i64 9))], none⟩,
    ⟨(some 9), .op (.un .not (.tmp 8)), none⟩]) (.kill [7, 8]))
  (.cond (.tmp 9) (.ghost (.kill [0, 9]) (.seq (.post (.reg [⟨(some 10), .op (.build [Value.int .i64 0, Value.int .i64 0, Value.slice none 0 0, Value.slice none 0 0, Value.slice none 0 0, Value.slice none 0 0] []), none⟩,
    ⟨none, .op (.store 6 (.tmp 2) (.tmp 10)), none⟩,
    ⟨(some 3), .op (.mv (.const (Value.int .i64 2))), none⟩]) (.kill [10]))
  .ret))
  (.ghost (.kill [9]) .skip)))
  (.seq (.post (.reg [⟨(some 11), .op (.build [Value.int .i64 0, Value.int .i64 0, Value.slice none 0 0, Value.slice none 0 0, Value.slice none 0 0, Value.slice none 0 0] [(0, 1, (.const (Value.int .i64 1)))]), none⟩,
    ⟨(some 4), .op (.alloc (Value.agg #[Value.int .i64 0, Value.int .i64 0, Value.slice none 0 0, Value.slice none 0 0, Value.slice none 0 0, Value.slice none 0 0])), none⟩,
    ⟨none, .op (.store 6 (.tmp 4) (.tmp 11)), none⟩]) (.kill [11]))
  (.seq (.seq (.reg [⟨(some 5), .op (.mv (.const (Value.int .i64 0))), none⟩])
  (.post (.block 0 (.ghost .nv lo_spec_DepthChecker_0)) .nv))
  (.ghost (.kill [5]) (.seq (.post (.reg [⟨(some 30), .op (.mv (.tmp 0)), none⟩,
    ⟨(some 31), .op (.bin .add (.tmp 30) (.const (Value.int .i64 1))), none⟩,
    ⟨(some 32), .call (.func i_spec_l02Same) [(.tmp 31), (.const (Value.int .i64 6))], none⟩,
    ⟨(some 33), .call (.func i_spec_l02Plain) [(.tmp 4), (.const (Value.bool false)), (.tmp 32)], none⟩]) (.kill [0, 30, 31, 32, 33]))
  (.seq (.post (.reg [⟨(some 34), .op (.load 6 true (.tmp 4)), none⟩,
    ⟨none, .op (.store 6 (.tmp 2) (.tmp 34)), none⟩,
    ⟨(some 3), .op (.mv (.const (Value.int .i64 0))), none⟩]) (.kill [4, 34]))
  .ret)))))))
theorem cf_spec_DepthChecker : chkFn Try.prog i_spec_DepthChecker ac_spec_DepthChecker [.cell 2 6 true, .tmp 3] 35 = true := by decide +kernel
def fa_spec_DepthChecker : FnA := ⟨ac_spec_DepthChecker, [.cell 2 6 true, .tmp 3], 35, false, true⟩

/-- The checked code of spec CountChecker. -/
def lb_spec_CountChecker_0 : AC := (.post (.seq (.seq (.post (.reg [⟨(some 25), .op (.mv (.tmp 7)), none⟩,
    ⟨(some 26), .op (.mv (.tmp 1)), none⟩,
    ⟨(some 27), .op (.bin .lss (.tmp 25) (.tmp 26)), none⟩]) (.kill [25, 26]))
  (.cond (.tmp 27) (.ghost (.kill [27]) .skip)
  (.ghost (.kill [0, 1, 7, 27]) (.exit 0))))
  (.seq (.block 1 (.seq (.post (.reg [⟨(some 30), .op (.mv (.tmp 7)), none⟩,
    ⟨(some 31), .call (.func i_spec_l02Same) [(.tmp 30), (.const (Value.int .i64 6))], none⟩,
    ⟨(some 8), .op (.mv (.tmp 31)), none⟩]) (.kill [30, 31]))
  (.seq (.post (.draw [⟨0, ⟨(some 32), .op (.mv (.tmp 8)), none⟩, []⟩,
    ⟨1, ⟨(some 33), .op (.mv (.tmp 0)), none⟩, []⟩,
    ⟨2, ⟨(some 34), .op (.idxStr (.tmp 33) (.const (Value.int .i64 0))), none⟩, []⟩,
    ⟨4, ⟨(some 36), .op (.mv (.tmp 7)), none⟩, []⟩,
    ⟨5, ⟨(some 37), .op (.bin .add (.tmp 36) (.const (Value.int .i64 1))), none⟩, []⟩,
    ⟨6, ⟨(some 38), .op (.mv (.tmp 1)), none⟩, []⟩,
    ⟨7, ⟨(some 39), .op (.bin .rem (.tmp 37) (.tmp 38)), none⟩, []⟩,
    ⟨3, ⟨(some 35), .call (.func i_spec_l01Symbol) [(.tmp 34)], none⟩, []⟩,
    ⟨8, ⟨(some 40), .op (.iaddrS (.tmp 32) (.tmp 35) 1), none⟩, []⟩,
    ⟨9, ⟨none, .op (.store 1 (.tmp 40) (.tmp 39)), none⟩, []⟩]
    [0, 0, 2, 6, 0, 16, 0, 112, 255, 511]) (.kill [32, 33, 34, 35, 36, 37, 38, 39, 40]))
  (.post (.reg [⟨(some 41), .op (.mv (.tmp 7)), none⟩,
    ⟨(some 42), .op (.bin .eql (.tmp 41) (.const (Value.int .i64 0))), none⟩,
    ⟨(some 43), .op (.mv (.tmp 8)), none⟩,
    ⟨(some 44), .call (.func i_spec_l02Plain) [(.tmp 6), (.tmp 42), (.tmp 43)], none⟩]) (.kill [8, 41, 42, 43, 44])))))
  (.post (.reg [⟨(some 28), .op (.mv (.tmp 7)), none⟩,
    ⟨(some 29), .op (.bin .add (.tmp 28) (.const (Value.int .i64 1))), none⟩,
    ⟨(some 7), .op (.mv (.tmp 29)), none⟩]) (.kill [28, 29])))) .nv)
def lo_spec_CountChecker_0 : AC := (.loop lb_spec_CountChecker_0)
def ac_spec_CountChecker : AC := (.seq (.post (.reg [⟨(some 4), .op (.alloc (Value.agg #[Value.int .i64 0, Value.int .i64 0, Value.slice none 0 0, Value.slice none 0 0, Value.slice none 0 0, Value.slice none 0 0])), none⟩,
    ⟨(some 5), .op (.mv (.const (Value.int .i64 0))), none⟩]) (.kill [5]))
  (.seq (.seq (.post (.reg [⟨(some 9), .op (.mv (.tmp 0)), none⟩,
    ⟨(some 10), .op (.len true (.tmp 9)), none⟩,
    ⟨(some 11), .op (.bin .neq (.tmp 10) (.const (Value.int .i64 1))), none⟩,
    ⟨(some 12), .op (.mv (.tmp 11)), none⟩,
    ⟨(some 13), .op (.mv (.tmp 0)), some (12, false)⟩,
    ⟨(some 14), .op (.idxStr (.tmp 13) (.const (Value.int .i64 0))), some (12, false)⟩,
    ⟨(some 15), .call (.func i_spec_l01Symbol) [(.tmp 14)], some (12, false)⟩,
    ⟨(some 16), .op (.bin .lss (.tmp 15) (.const (Value.int .i64 0))), some (12, false)⟩,
    ⟨(some 17), .op (.pick (.tmp 12) (.const (Value.bool true)) (.tmp 16)), none⟩,
    ⟨(some 18), .op (.mv (.tmp 17)), none⟩,
    ⟨(some 19), .op (.mv (.tmp 1)), some (18, false)⟩,
    ⟨(some 20), .call (.func i_spec_l00In) [(.tmp 19), (.const (Value.int .i64 1)), (.const (Value.int .i64 40))], some (18, false)⟩,
    ⟨(some 21), .op (.un .not (.tmp 20)), some (18, false)⟩,
    ⟨(some 22), .op (.pick (.tmp 18) (.const (Value.bool true)) (.tmp 21)), none⟩]) (.kill [9, 10, 11, 12, 13, 14, 15, 16, 17, 18, 19, 20, 21]))
  (.cond (.tmp 22) (.ghost (.kill [0, 1, 22]) (.seq (.post (.reg [⟨(some 23), .op (.build [Value.int .i64 0, Value.int .i64 0, Value.slice none 0 0, Value.slice none 0 0, Value.slice none 0 0, Value.slice none 0 0] []), none⟩,
    ⟨none, .op (.store 6 (.tmp 4) (.tmp 23)), none⟩,
    ⟨(some 5), .op (.mv (.const (Value.int .i64 2))), none⟩]) (.kill [23]))
  .ret))
  (.ghost (.kill [22]) .skip)))
  (.seq (.post (.reg [⟨(some 24), .op (.build [Value.int .i64 0, Value.int .i64 0, Value.slice none 0 0, Value.slice none 0 0, Value.slice none 0 0, Value.slice none 0 0] [(0, 1, (.const (Value.int .i64 1)))]), none⟩,
    ⟨(some 6), .op (.alloc (Value.agg #[Value.int .i64 0, Value.int .i64 0, Value.slice none 0 0, Value.slice none 0 0, Value.slice none 0 0, Value.slice none 0 0])), none⟩,
    ⟨none, .op (.store 6 (.tmp 6) (.tmp 24)), none⟩]) (.kill [24]))
  (.seq (.seq (.reg [⟨(some 7), .op (.mv (.const (Value.int .i64 0))), none⟩])
  (.post (.block 0 (.ghost .nv lo_spec_CountChecker_0)) .nv))
  (.ghost (.kill [0, 1, 7]) (.seq (.post (.reg [⟨(some 45), .op (.load 6 true (.tmp 6)), none⟩,
    ⟨none, .op (.store 6 (.tmp 4) (.tmp 45)), none⟩,
    ⟨(some 5), .op (.mv (.const (Value.int .i64 0))), none⟩]) (.kill [6, 45]))
  .ret))))))
theorem cf_spec_CountChecker : chkFn Try.prog i_spec_CountChecker ac_spec_CountChecker [.cell 4 6 true, .tmp 5] 46 = true := by decide +kernel
def fa_spec_CountChecker : FnA := ⟨ac_spec_CountChecker, [.cell 4 6 true, .tmp 5], 46, false, true⟩

/-- The checked code of spec l02Known. -/
def ac_spec_l02Known : AC := (.seq (.reg [⟨(some 2), .op (.alloc (Value.agg #[Value.int .i64 0, Value.int .i64 0, Value.slice none 0 0, Value.slice none 0 0, Value.slice none 0 0, Value.slice none 0 0])), none⟩])
  (.seq (.post (.reg [⟨(some 4), .call (.func i_spec_MatchedChecker) [], none⟩,
    ⟨(some 3), .op (.alloc (Value.agg #[Value.int .i64 0, Value.int .i64 0, Value.slice none 0 0, Value.slice none 0 0, Value.slice none 0 0, Value.slice none 0 0])), none⟩,
    ⟨none, .op (.store 6 (.tmp 3) (.tmp 4)), none⟩]) (.kill [4]))
  (.seq (.seq (.post (.reg [⟨(some 5), .op (.mv (.tmp 0)), none⟩,
    ⟨(some 6), .call (.func i_P_spec_l00Src_pick) [(.tmp 5), (.const (Value.int .i64 4))], none⟩]) (.kill [5]))
  (.block 0 (.seq (.post (.reg [⟨(some 8), .op (.bin .eql (.tmp 6) (.const (Value.int .i64 0))), none⟩,
    ⟨(some 7), .op (.mv (.tmp 8)), none⟩]) (.kill [8]))
  (.cond (.tmp 7) (.ghost (.kill [0, 6, 7]) (.post (.reg [⟨(some 9), .call (.func i_spec_KindsChecker) [], none⟩,
    ⟨none, .op (.store 6 (.tmp 3) (.tmp 9)), none⟩]) (.kill [9])))
  (.ghost (.kill [7]) (.seq (.post (.reg [⟨(some 11), .op (.bin .eql (.tmp 6) (.const (Value.int .i64 1))), none⟩,
    ⟨(some 10), .op (.mv (.tmp 11)), none⟩]) (.kill [11]))
  (.cond (.tmp 10) (.ghost (.kill [6, 10]) (.post (.reg [⟨(some 13), .op (.mv (.tmp 0)), none⟩,
    ⟨(some 14), .call (.func i_P_spec_l00Src_pick) [(.tmp 13), (.const (Value.int .i64 4))], none⟩,
    ⟨(some 15), .call (.func i_spec_DepthChecker) [(.tmp 14)], none⟩,
    ⟨(some 12), .op (.mv (.tmp 15)), none⟩,
    ⟨(some 16), .op (.ext (.tmp 12) 0), none⟩,
    ⟨(some 17), .op (.ext (.tmp 12) 1), none⟩,
    ⟨none, .op (.store 6 (.tmp 3) (.tmp 16)), none⟩]) (.kill [0, 12, 13, 14, 15, 16, 17])))
  (.ghost (.kill [10]) (.seq (.post (.reg [⟨(some 19), .op (.bin .eql (.tmp 6) (.const (Value.int .i64 2))), none⟩,
    ⟨(some 18), .op (.mv (.tmp 19)), none⟩]) (.kill [6, 19]))
  (.cond (.tmp 18) (.ghost (.kill [18]) (.post (.draw [⟨0, ⟨(some 21), .op (.mv (.tmp 0)), none⟩, []⟩,
    ⟨4, ⟨(some 25), .op (.mv (.tmp 0)), none⟩, []⟩,
    ⟨1, ⟨(some 22), .call (.func i_P_spec_l00Src_pick) [(.tmp 21), (.const (Value.int .i64 6))], none⟩, []⟩,
    ⟨2, ⟨(some 23), .op (.slcStr (.const (Value.string ⟨#[40, 91, 41, 93, 97, 98]⟩)) (some (.tmp 22)) none), none⟩, []⟩,
    ⟨3, ⟨(some 24), .op (.slcStr (.tmp 23) none (some (.const (Value.int .i64 1)))), none⟩, []⟩,
    ⟨5, ⟨(some 26), .call (.func i_P_spec_l00Src_pick) [(.tmp 25), (.const (Value.int .i64 3))], none⟩, []⟩,
    ⟨6, ⟨(some 27), .op (.bin .add (.const (Value.int .i64 1)) (.tmp 26)), none⟩, []⟩,
    ⟨7, ⟨(some 28), .call (.func i_spec_CountChecker) [(.tmp 24), (.tmp 27)], none⟩, []⟩,
    ⟨8, ⟨(some 20), .op (.mv (.tmp 28)), none⟩, []⟩,
    ⟨9, ⟨(some 29), .op (.ext (.tmp 20) 0), none⟩, []⟩,
    ⟨10, ⟨(some 30), .op (.ext (.tmp 20) 1), none⟩, []⟩,
    ⟨11, ⟨none, .op (.store 6 (.tmp 3) (.tmp 29)), none⟩, []⟩]
    [0, 1, 3, 7, 0, 19, 51, 127, 255, 511, 511, 1023]) (.kill [0, 20, 21, 22, 23, 24, 25, 26, 27, 28, 29, 30])))
  (.ghost (.kill [0, 18]) .skip)))))))))))
  (.seq (.post (.reg [⟨(some 31), .op (.load 6 true (.tmp 3)), none⟩,
    ⟨none, .op (.store 6 (.tmp 2) (.tmp 31)), none⟩]) (.kill [3, 31]))
  .ret))))
theorem cf_spec_l02Known : chkFn Try.prog i_spec_l02Known ac_spec_l02Known [.cell 2 6 true] 32 = true := by decide +kernel
def fa_spec_l02Known : FnA := ⟨ac_spec_l02Known, [.cell 2 6 true], 32, false, true⟩

/-- The checked code of spec l02Drawn. -/
def lb_spec_l02Drawn_0 : AC := (.post (.seq (.seq (.post (.reg [⟨(some 55), .op (.mv (.tmp 16)), none⟩,
    ⟨(some 56), .op (.faddr (.tmp 8) 0), none⟩,
    ⟨(some 57), .op (.load 1 false (.tmp 56)), none⟩,
    ⟨(some 58), .op (.bin .leq (.tmp 55) (.tmp 57)), none⟩]) (.kill [55, 56, 57]))
  (.cond (.tmp 58) (.ghost (.kill [58]) .skip)
  (.ghost (.kill [16, 58]) (.exit 4))))
  (.seq (.block 5 (.post (.reg [⟨(some 61), .op (.mv (.tmp 15)), none⟩,
    ⟨(some 62), .op (.mv (.tmp 0)), none⟩,
    ⟨(some 63), .op (.mv (.tmp 7)), none⟩,
    ⟨(some 64), .call (.func i_P_spec_l00Src_pick) [(.tmp 62), (.tmp 63)], none⟩,
    ⟨(some 65), .op (.lits true 1 1 (Value.int .i64 0) [(0, (.tmp 64))]), none⟩,
    ⟨(some 66), .op (.append (.tmp 61) (.tmp 65) 1 8), none⟩,
    ⟨(some 15), .op (.mv (.tmp 66)), none⟩]) (.kill [61, 62, 63, 64, 65, 66])))
  (.post (.reg [⟨(some 59), .op (.mv (.tmp 16)), none⟩,
    ⟨(some 60), .op (.bin .add (.tmp 59) (.const (Value.int .i64 1))), none⟩,
    ⟨(some 16), .op (.mv (.tmp 60)), none⟩]) (.kill [59, 60])))) .nv)
def lo_spec_l02Drawn_0 : AC := (.loop lb_spec_l02Drawn_0)
def lb_spec_l02Drawn_1 : AC := (.post (.seq (.seq (.post (.reg [⟨(some 37), .op (.mv (.tmp 13)), none⟩,
    ⟨(some 38), .op (.bin .lss (.tmp 37) (.const (Value.int .i64 2))), none⟩]) (.kill [37]))
  (.cond (.tmp 38) (.ghost (.kill [38]) .skip)
  (.ghost (.kill [13, 38]) (.exit 2))))
  (.seq (.block 3 (.seq (.post (.reg [⟨(some 41), .op (.mv (.tmp 0)), none⟩,
    ⟨(some 42), .op (.mv (.tmp 7)), none⟩,
    ⟨(some 43), .call (.func i_P_spec_l00Src_pick) [(.tmp 41), (.tmp 42)], none⟩,
    ⟨(some 44), .op (.build [Value.int .i64 0, Value.int .i64 0] [(0, 1, (.tmp 43))]), none⟩,
    ⟨(some 14), .op (.alloc (Value.agg #[Value.int .i64 0, Value.int .i64 0])), none⟩,
    ⟨none, .op (.store 2 (.tmp 14) (.tmp 44)), none⟩]) (.kill [41, 42, 43, 44]))
  (.seq (.post (.reg [⟨(some 45), .op (.mv (.tmp 0)), none⟩,
    ⟨(some 46), .op (.faddr (.tmp 8) 0), none⟩,
    ⟨(some 47), .op (.load 1 false (.tmp 46)), none⟩,
    ⟨(some 48), .call (.func i_P_spec_l00Src_pick) [(.tmp 45), (.tmp 47)], none⟩,
    ⟨(some 49), .op (.faddr (.tmp 14) 1), none⟩,
    ⟨none, .op (.store 1 (.tmp 49) (.tmp 48)), none⟩]) (.kill [45, 46, 47, 48, 49]))
  (.seq (.post (.reg [⟨(some 50), .op (.mv (.tmp 10)), none⟩,
    ⟨(some 51), .op (.load 2 true (.tmp 14)), none⟩,
    ⟨(some 52), .op (.lits true 2 1 (Value.agg #[Value.int .i64 0, Value.int .i64 0]) [(0, (.tmp 51))]), none⟩,
    ⟨(some 53), .op (.append (.tmp 50) (.tmp 52) 2 16), none⟩,
    ⟨(some 10), .op (.mv (.tmp 53)), none⟩]) (.kill [14, 50, 51, 52, 53]))
  (.seq (.post (.reg [⟨(some 54), .op (.lits true 1 0 (Value.int .i64 0) []), none⟩,
    ⟨(some 15), .op (.mv (.tmp 54)), none⟩]) (.kill [54]))
  (.seq (.seq (.reg [⟨(some 16), .op (.mv (.const (Value.int .i64 0))), none⟩])
  (.post (.block 4 (.ghost .nv lo_spec_l02Drawn_0)) .nv))
  (.ghost (.kill [16]) (.seq (.post (.reg [⟨(some 67), .op (.mv (.tmp 11)), none⟩,
    ⟨(some 68), .op (.mv (.tmp 15)), none⟩,
    ⟨(some 69), .op (.lits true 1 1 (Value.slice none 0 0) [(0, (.tmp 68))]), none⟩,
    ⟨(some 70), .op (.append (.tmp 67) (.tmp 69) 1 24), none⟩,
    ⟨(some 11), .op (.mv (.tmp 70)), none⟩]) (.kill [15, 67, 68, 69, 70]))
  (.post (.reg [⟨(some 71), .op (.mv (.tmp 12)), none⟩,
    ⟨(some 72), .op (.mv (.tmp 0)), none⟩,
    ⟨(some 73), .op (.mv (.tmp 7)), none⟩,
    ⟨(some 74), .call (.func i_P_spec_l00Src_pick) [(.tmp 72), (.tmp 73)], none⟩,
    ⟨(some 75), .op (.lits true 1 1 (Value.int .i64 0) [(0, (.tmp 74))]), none⟩,
    ⟨(some 76), .op (.append (.tmp 71) (.tmp 75) 1 8), none⟩,
    ⟨(some 12), .op (.mv (.tmp 76)), none⟩]) (.kill [71, 72, 73, 74, 75, 76]))))))))))
  (.post (.reg [⟨(some 39), .op (.mv (.tmp 13)), none⟩,
    ⟨(some 40), .op (.bin .add (.tmp 39) (.const (Value.int .i64 1))), none⟩,
    ⟨(some 13), .op (.mv (.tmp 40)), none⟩]) (.kill [39, 40])))) .nv)
def lo_spec_l02Drawn_1 : AC := (.loop lb_spec_l02Drawn_1)
def lb_spec_l02Drawn_2 : AC := (.post (.seq (.seq (.post (.reg [⟨(some 29), .op (.mv (.tmp 9)), none⟩,
    ⟨(some 30), .op (.mv (.tmp 7)), none⟩,
    ⟨(some 31), .op (.bin .lss (.tmp 29) (.tmp 30)), none⟩]) (.kill [29, 30]))
  (.cond (.tmp 31) (.ghost (.kill [31]) .skip)
  (.ghost (.kill [0, 7, 9, 31]) (.exit 0))))
  (.seq (.block 1 (.seq (.post (.reg [⟨(some 34), .op (.lits true 2 0 (Value.agg #[Value.int .i64 0, Value.int .i64 0]) []), none⟩,
    ⟨(some 10), .op (.mv (.tmp 34)), none⟩]) (.kill [34]))
  (.seq (.post (.reg [⟨(some 35), .op (.lits true 1 0 (Value.slice none 0 0) []), none⟩,
    ⟨(some 11), .op (.mv (.tmp 35)), none⟩]) (.kill [35]))
  (.seq (.post (.reg [⟨(some 36), .op (.lits true 1 0 (Value.int .i64 0) []), none⟩,
    ⟨(some 12), .op (.mv (.tmp 36)), none⟩]) (.kill [36]))
  (.seq (.seq (.reg [⟨(some 13), .op (.mv (.const (Value.int .i64 0))), none⟩])
  (.post (.block 2 (.ghost .nv lo_spec_l02Drawn_1)) .nv))
  (.ghost (.kill [13]) (.seq (.post (.draw [⟨0, ⟨(some 77), .op (.faddr (.tmp 8) 2), none⟩, []⟩,
    ⟨1, ⟨(some 78), .op (.load 1 false (.tmp 77)), none⟩, []⟩,
    ⟨2, ⟨(some 79), .op (.mv (.tmp 0)), none⟩, []⟩,
    ⟨3, ⟨(some 80), .call (.func i_P_spec_l00Src_one) [(.tmp 79), (.const (Value.int .i64 2))], none⟩, [1]⟩,
    ⟨4, ⟨(some 81), .op (.lits true 1 1 (Value.bool false) [(0, (.tmp 80))]), none⟩, []⟩,
    ⟨5, ⟨(some 82), .op (.append (.tmp 78) (.tmp 81) 1 1), none⟩, []⟩,
    ⟨6, ⟨(some 83), .op (.faddr (.tmp 8) 2), none⟩, []⟩,
    ⟨7, ⟨none, .op (.store 1 (.tmp 83) (.tmp 82)), none⟩, []⟩]
    [0, 1, 0, 4, 12, 31, 63, 127]) (.kill [77, 78, 79, 80, 81, 82, 83]))
  (.seq (.post (.reg [⟨(some 84), .op (.faddr (.tmp 8) 3), none⟩,
    ⟨(some 85), .op (.load 1 false (.tmp 84)), none⟩,
    ⟨(some 86), .op (.mv (.tmp 10)), none⟩,
    ⟨(some 87), .op (.lits true 1 1 (Value.slice none 0 0) [(0, (.tmp 86))]), none⟩,
    ⟨(some 88), .op (.append (.tmp 85) (.tmp 87) 1 24), none⟩,
    ⟨(some 89), .op (.faddr (.tmp 8) 3), none⟩,
    ⟨none, .op (.store 1 (.tmp 89) (.tmp 88)), none⟩]) (.kill [10, 84, 85, 86, 87, 88, 89]))
  (.seq (.post (.reg [⟨(some 90), .op (.faddr (.tmp 8) 4), none⟩,
    ⟨(some 91), .op (.load 1 false (.tmp 90)), none⟩,
    ⟨(some 92), .op (.mv (.tmp 11)), none⟩,
    ⟨(some 93), .op (.lits true 1 1 (Value.slice none 0 0) [(0, (.tmp 92))]), none⟩,
    ⟨(some 94), .op (.append (.tmp 91) (.tmp 93) 1 24), none⟩,
    ⟨(some 95), .op (.faddr (.tmp 8) 4), none⟩,
    ⟨none, .op (.store 1 (.tmp 95) (.tmp 94)), none⟩]) (.kill [11, 90, 91, 92, 93, 94, 95]))
  (.post (.reg [⟨(some 96), .op (.faddr (.tmp 8) 5), none⟩,
    ⟨(some 97), .op (.load 1 false (.tmp 96)), none⟩,
    ⟨(some 98), .op (.mv (.tmp 12)), none⟩,
    ⟨(some 99), .op (.lits true 1 1 (Value.slice none 0 0) [(0, (.tmp 98))]), none⟩,
    ⟨(some 100), .op (.append (.tmp 97) (.tmp 99) 1 24), none⟩,
    ⟨(some 101), .op (.faddr (.tmp 8) 5), none⟩,
    ⟨none, .op (.store 1 (.tmp 101) (.tmp 100)), none⟩]) (.kill [12, 96, 97, 98, 99, 100, 101])))))))))))
  (.post (.reg [⟨(some 32), .op (.mv (.tmp 9)), none⟩,
    ⟨(some 33), .op (.bin .add (.tmp 32) (.const (Value.int .i64 1))), none⟩,
    ⟨(some 9), .op (.mv (.tmp 33)), none⟩]) (.kill [32, 33])))) .nv)
def lo_spec_l02Drawn_2 : AC := (.loop lb_spec_l02Drawn_2)
def ac_spec_l02Drawn : AC := (.seq (.reg [⟨(some 6), .op (.alloc (Value.agg #[Value.int .i64 0, Value.int .i64 0, Value.slice none 0 0, Value.slice none 0 0, Value.slice none 0 0, Value.slice none 0 0])), none⟩])
  (.seq (.post (.reg [⟨(some 17), .op (.mv (.tmp 0)), none⟩,
    ⟨(some 18), .op (.mv (.tmp 1)), none⟩,
    ⟨(some 19), .call (.func i_P_spec_l00Src_pick) [(.tmp 17), (.tmp 18)], none⟩,
    ⟨(some 20), .op (.bin .add (.const (Value.int .i64 1)) (.tmp 19)), none⟩,
    ⟨(some 7), .op (.mv (.tmp 20)), none⟩]) (.kill [1, 17, 18, 19, 20]))
  (.seq (.post (.reg [⟨(some 21), .op (.mv (.tmp 0)), none⟩,
    ⟨(some 22), .op (.mv (.tmp 2)), none⟩,
    ⟨(some 23), .call (.func i_P_spec_l00Src_pick) [(.tmp 21), (.tmp 22)], none⟩,
    ⟨(some 24), .op (.bin .add (.const (Value.int .i64 1)) (.tmp 23)), none⟩,
    ⟨(some 25), .op (.mv (.tmp 0)), none⟩,
    ⟨(some 26), .op (.mv (.tmp 7)), none⟩,
    ⟨(some 27), .call (.func i_P_spec_l00Src_pick) [(.tmp 25), (.tmp 26)], none⟩,
    ⟨(some 28), .op (.build [Value.int .i64 0, Value.int .i64 0, Value.slice none 0 0, Value.slice none 0 0, Value.slice none 0 0, Value.slice none 0 0] [(0, 1, (.tmp 24)), (1, 1, (.tmp 27))]), none⟩,
    ⟨(some 8), .op (.alloc (Value.agg #[Value.int .i64 0, Value.int .i64 0, Value.slice none 0 0, Value.slice none 0 0, Value.slice none 0 0, Value.slice none 0 0])), none⟩,
    ⟨none, .op (.store 6 (.tmp 8) (.tmp 28)), none⟩]) (.kill [2, 21, 22, 23, 24, 25, 26, 27, 28]))
  (.seq (.seq (.reg [⟨(some 9), .op (.mv (.const (Value.int .i64 0))), none⟩])
  (.post (.block 0 (.ghost .nv lo_spec_l02Drawn_2)) .nv))
  (.ghost (.kill [0, 7, 9]) (.seq (.post (.reg [⟨(some 102), .op (.load 6 true (.tmp 8)), none⟩,
    ⟨none, .op (.store 6 (.tmp 6) (.tmp 102)), none⟩]) (.kill [8, 102]))
  .ret))))))
theorem cf_spec_l02Drawn : chkFn Try.prog i_spec_l02Drawn ac_spec_l02Drawn [.cell 6 6 true] 103 = true := by decide +kernel
def fa_spec_l02Drawn : FnA := ⟨ac_spec_l02Drawn, [.cell 6 6 true], 103, false, true⟩

/-- The checked code of spec A2Checker. -/
def ac_spec_A2Checker : AC := (.seq (.reg [⟨(some 2), .op (.alloc (Value.agg #[Value.int .i64 0, Value.int .i64 0, Value.slice none 0 0, Value.slice none 0 0, Value.slice none 0 0, Value.slice none 0 0])), none⟩])
  (.seq (.post (.reg [⟨(some 4), .op (.mv (.tmp 0)), none⟩,
    ⟨(some 5), .call (.func i_spec_l00From) [(.tmp 4)], none⟩,
    ⟨(some 3), .op (.mv (.tmp 5)), none⟩]) (.kill [0, 4, 5]))
  (.seq (.seq (.post (.reg [⟨(some 6), .op (.mv (.tmp 3)), none⟩,
    ⟨(some 7), .call (.func i_P_spec_l00Src_one) [(.tmp 6), (.const (Value.int .i64 3))], none⟩]) (.kill [6]))
  (.cond (.tmp 7) (.ghost (.kill [7]) (.seq (.post (.reg [⟨(some 8), .op (.mv (.tmp 3)), none⟩,
    ⟨(some 9), .call (.func i_spec_l02Known) [(.tmp 8)], none⟩,
    ⟨none, .op (.store 6 (.tmp 2) (.tmp 9)), none⟩]) (.kill [3, 8, 9]))
  .ret))
  (.ghost (.kill [7]) .skip)))
  (.seq (.post (.reg [⟨(some 10), .op (.mv (.tmp 3)), none⟩,
    ⟨(some 11), .call (.func i_spec_l02Drawn) [(.tmp 10), (.const (Value.int .i64 3)), (.const (Value.int .i64 2))], none⟩,
    ⟨none, .op (.store 6 (.tmp 2) (.tmp 11)), none⟩]) (.kill [3, 10, 11]))
  .ret))))
theorem cf_spec_A2Checker : chkFn Try.prog i_spec_A2Checker ac_spec_A2Checker [.cell 2 6 true] 12 = true := by decide +kernel
def fa_spec_A2Checker : FnA := ⟨ac_spec_A2Checker, [.cell 2 6 true], 12, false, true⟩

/-- The checked code of spec l00Src  among. -/
def ac_P_spec_l00Src_among : AC := (.seq (.post (.reg [⟨(some 4), .op (.mv (.const (Value.int .i64 0))), none⟩]) (.kill [4]))
  (.seq (.post (.reg [⟨(some 5), .op (.mv (.tmp 1)), none⟩,
    ⟨(some 6), .op (.mv (.tmp 0)), none⟩,
    ⟨(some 7), .op (.mv (.tmp 1)), none⟩,
    ⟨(some 8), .op (.len false (.tmp 7)), none⟩,
    ⟨(some 9), .call (.func i_P_spec_l00Src_pick) [(.tmp 6), (.tmp 8)], none⟩,
    ⟨(some 10), .op (.iaddrS (.tmp 5) (.tmp 9) 1), none⟩,
    ⟨(some 11), .op (.load 1 false (.tmp 10)), none⟩,
    ⟨(some 4), .op (.mv (.tmp 11)), none⟩]) (.kill [0, 1, 5, 6, 7, 8, 9, 10, 11]))
  .ret))
theorem cf_P_spec_l00Src_among : chkFn Try.prog i_P_spec_l00Src_among ac_P_spec_l00Src_among [.tmp 4] 12 = true := by decide +kernel
def fa_P_spec_l00Src_among : FnA := ⟨ac_P_spec_l00Src_among, [.tmp 4], 12, true, false⟩

/-- The checked code of spec l01Drawn. -/
def lb_spec_l01Drawn_0 : AC := (.post (.seq (.seq (.post (.reg [⟨(some 18), .op (.mv (.tmp 8)), none⟩,
    ⟨(some 19), .op (.bin .gtr (.tmp 18) (.const (Value.int .i64 0))), none⟩]) (.kill [18]))
  (.cond (.tmp 19) (.ghost (.kill [19]) .skip)
  (.ghost (.kill [8, 19]) (.exit 0))))
  (.seq (.block 1 (.seq (.post (.reg [⟨(some 22), .op (.mv (.tmp 0)), none⟩,
    ⟨(some 23), .op (.lits false 1 7 (Value.int .i64 0) [(0, (.const (Value.int .i64 0))), (1, (.const (Value.int .i64 1))), (2, (.const (Value.int .i64 2))), (3, (.const (Value.int .i64 2))), (4, (.const (Value.int .i64 3))), (5, (.const (Value.int .i64 4))), (6, (.const (Value.int .i64 5)))]), none⟩,
    ⟨(some 24), .call (.func i_P_spec_l00Src_among) [(.tmp 22), (.tmp 23)], none⟩,
    ⟨(some 25), .op (.idxStr (.const (Value.string ⟨#[40, 91, 41, 93, 97, 98]⟩)) (.tmp 24)), none⟩,
    ⟨(some 9), .op (.mv (.tmp 25)), none⟩]) (.kill [22, 23, 24, 25]))
  (.seq (.seq (.post (.reg [⟨(some 26), .op (.mv (.tmp 7)), none⟩,
    ⟨(some 27), .op (.mv (.tmp 26)), none⟩,
    ⟨(some 28), .op (.mv (.tmp 9)), some (27, true)⟩,
    ⟨(some 29), .call (.func i_spec_l01Return) [(.tmp 28)], some (27, true)⟩,
    ⟨(some 30), .op (.pick (.tmp 27) (.tmp 29) (.const (Value.bool false))), none⟩,
    ⟨(some 31), .op (.mv (.tmp 30)), none⟩,
    ⟨(some 32), .op (.mv (.tmp 6)), some (31, true)⟩,
    ⟨(some 33), .op (.bin .eql (.tmp 32) (.const (Value.int .i64 0))), some (31, true)⟩,
    ⟨(some 34), .op (.pick (.tmp 31) (.tmp 33) (.const (Value.bool false))), none⟩]) (.kill [26, 27, 28, 29, 30, 31, 32, 33]))
  (.cond (.tmp 34) (.ghost (.kill [9, 34]) (.reg [⟨(some 9), .op (.mv (.const (Value.int .u8 40))), none⟩]))
  (.ghost (.kill [34]) .skip)))
  (.seq (.seq (.post (.reg [⟨(some 35), .op (.mv (.tmp 9)), none⟩,
    ⟨(some 36), .call (.func i_spec_l01Call) [(.tmp 35)], none⟩]) (.kill [35]))
  (.cond (.tmp 36) (.ghost (.kill [36]) (.post (.reg [⟨(some 37), .op (.mv (.tmp 6)), none⟩,
    ⟨(some 38), .op (.bin .add (.tmp 37) (.const (Value.int .i64 1))), none⟩,
    ⟨(some 6), .op (.mv (.tmp 38)), none⟩]) (.kill [37, 38])))
  (.ghost (.kill [36]) .skip)))
  (.seq (.seq (.post (.reg [⟨(some 39), .op (.mv (.tmp 9)), none⟩,
    ⟨(some 40), .call (.func i_spec_l01Return) [(.tmp 39)], none⟩,
    ⟨(some 41), .op (.mv (.tmp 40)), none⟩,
    ⟨(some 42), .op (.mv (.tmp 6)), some (41, true)⟩,
    ⟨(some 43), .op (.bin .gtr (.tmp 42) (.const (Value.int .i64 0))), some (41, true)⟩,
    ⟨(some 44), .op (.pick (.tmp 41) (.tmp 43) (.const (Value.bool false))), none⟩]) (.kill [39, 40, 41, 42, 43]))
  (.cond (.tmp 44) (.ghost (.kill [44]) (.post (.reg [⟨(some 45), .op (.mv (.tmp 6)), none⟩,
    ⟨(some 46), .op (.bin .sub (.tmp 45) (.const (Value.int .i64 1))), none⟩,
    ⟨(some 6), .op (.mv (.tmp 46)), none⟩]) (.kill [45, 46])))
  (.ghost (.kill [44]) .skip)))
  (.post (.reg [⟨(some 47), .op (.mv (.tmp 5)), none⟩,
    ⟨(some 48), .op (.mv (.tmp 9)), none⟩,
    ⟨(some 49), .op (.lits true 1 1 (Value.int .u8 0) [(0, (.tmp 48))]), none⟩,
    ⟨(some 50), .op (.append (.tmp 47) (.tmp 49) 1 1), none⟩,
    ⟨(some 5), .op (.mv (.tmp 50)), none⟩]) (.kill [9, 47, 48, 49, 50])))))))
  (.post (.reg [⟨(some 20), .op (.mv (.tmp 8)), none⟩,
    ⟨(some 21), .op (.bin .sub (.tmp 20) (.const (Value.int .i64 1))), none⟩,
    ⟨(some 8), .op (.mv (.tmp 21)), none⟩]) (.kill [20, 21])))) .nv)
def lo_spec_l01Drawn_0 : AC := (.loop lb_spec_l01Drawn_0)
def lb_spec_l01Drawn_1 : AC := (.post (.seq (.seq (.post (.reg [⟨(some 51), .op (.mv (.tmp 7)), none⟩,
    ⟨(some 52), .op (.mv (.tmp 51)), none⟩,
    ⟨(some 53), .op (.mv (.tmp 6)), some (52, true)⟩,
    ⟨(some 54), .op (.bin .gtr (.tmp 53) (.const (Value.int .i64 0))), some (52, true)⟩,
    ⟨(some 55), .op (.pick (.tmp 52) (.tmp 54) (.const (Value.bool false))), none⟩,
    ⟨(some 56), .op (.mv (.tmp 55)), none⟩,
    ⟨(some 57), .op (.mv (.tmp 5)), some (56, true)⟩,
    ⟨(some 58), .op (.len false (.tmp 57)), some (56, true)⟩,
    ⟨(some 59), .op (.mv (.tmp 1)), some (56, true)⟩,
    ⟨(some 60), .op (.bin .lss (.tmp 58) (.tmp 59)), some (56, true)⟩,
    ⟨(some 61), .op (.pick (.tmp 56) (.tmp 60) (.const (Value.bool false))), none⟩,
    ⟨(some 62), .op (.mv (.tmp 61)), none⟩,
    ⟨(some 63), .op (.mv (.tmp 0)), some (62, true)⟩,
    ⟨(some 64), .call (.func i_P_spec_l00Src_one) [(.tmp 63), (.const (Value.int .i64 8))], some (62, true)⟩,
    ⟨(some 65), .op (.un .not (.tmp 64)), some (62, true)⟩,
    ⟨(some 66), .op (.pick (.tmp 62) (.tmp 65) (.const (Value.bool false))), none⟩]) (.kill [51, 52, 53, 54, 55, 56, 57, 58, 59, 60, 61, 62, 63, 64, 65]))
  (.cond (.tmp 66) (.ghost (.kill [66]) .skip)
  (.ghost (.kill [0, 1, 6, 7, 66]) (.exit 2))))
  (.block 3 (.seq (.post (.reg [⟨(some 67), .op (.mv (.tmp 5)), none⟩,
    ⟨(some 68), .op (.mv (.tmp 0)), none⟩,
    ⟨(some 69), .call (.func i_P_spec_l00Src_pick) [(.tmp 68), (.const (Value.int .i64 2))], none⟩,
    ⟨(some 70), .op (.idxStr (.const (Value.string ⟨#[41, 93]⟩)) (.tmp 69)), none⟩,
    ⟨(some 71), .op (.lits true 1 1 (Value.int .u8 0) [(0, (.tmp 70))]), none⟩,
    ⟨(some 72), .op (.append (.tmp 67) (.tmp 71) 1 1), none⟩,
    ⟨(some 5), .op (.mv (.tmp 72)), none⟩]) (.kill [67, 68, 69, 70, 71, 72]))
  (.post (.reg [⟨(some 73), .op (.mv (.tmp 6)), none⟩,
    ⟨(some 74), .op (.bin .sub (.tmp 73) (.const (Value.int .i64 1))), none⟩,
    ⟨(some 6), .op (.mv (.tmp 74)), none⟩]) (.kill [73, 74]))))) .nv)
def lo_spec_l01Drawn_1 : AC := (.loop lb_spec_l01Drawn_1)
def ac_spec_l01Drawn : AC := (.seq (.post (.reg [⟨(some 4), .op (.mv (.const (Value.string ⟨#[]⟩))), none⟩]) (.kill [4]))
  (.seq (.post (.reg [⟨(some 10), .op (.lits true 1 0 (Value.int .u8 0) []), none⟩,
    ⟨(some 5), .op (.mv (.tmp 10)), none⟩]) (.kill [10]))
  (.seq (.reg [⟨(some 6), .op (.mv (.const (Value.int .i64 0))), none⟩])
  (.seq (.post (.reg [⟨(some 11), .op (.mv (.tmp 0)), none⟩,
    ⟨(some 12), .call (.func i_P_spec_l00Src_one) [(.tmp 11), (.const (Value.int .i64 3))], none⟩,
    ⟨(some 13), .op (.un .not (.tmp 12)), none⟩,
    ⟨(some 7), .op (.mv (.tmp 13)), none⟩]) (.kill [11, 12, 13]))
  (.seq (.seq (.post (.reg [⟨(some 14), .op (.mv (.tmp 0)), none⟩,
    ⟨(some 15), .op (.mv (.tmp 1)), none⟩,
    ⟨(some 16), .op (.bin .add (.tmp 15) (.const (Value.int .i64 1))), none⟩,
    ⟨(some 17), .call (.func i_P_spec_l00Src_pick) [(.tmp 14), (.tmp 16)], none⟩,
    ⟨(some 8), .op (.mv (.tmp 17)), none⟩]) (.kill [14, 15, 16, 17]))
  (.post (.block 0 (.ghost .nv lo_spec_l01Drawn_0)) .nv))
  (.ghost (.kill [8]) (.seq (.post (.block 2 (.ghost .nv lo_spec_l01Drawn_1)) .nv)
  (.ghost (.kill [0, 1, 6, 7]) (.seq (.post (.reg [⟨(some 75), .op (.mv (.tmp 5)), none⟩,
    ⟨(some 76), .op (.b2s (.tmp 75)), none⟩,
    ⟨(some 4), .op (.mv (.tmp 76)), none⟩]) (.kill [5, 75, 76]))
  .ret)))))))))
theorem cf_spec_l01Drawn : chkFn Try.prog i_spec_l01Drawn ac_spec_l01Drawn [.tmp 4] 77 = true := by decide +kernel
def fa_spec_l01Drawn : FnA := ⟨ac_spec_l01Drawn, [.tmp 4], 77, false, true⟩

/-- The checked code of spec A2Word. -/
def ac_spec_A2Word : AC := (.seq (.post (.reg [⟨(some 4), .op (.mv (.const (Value.string ⟨#[]⟩))), none⟩]) (.kill [4]))
  (.seq (.post (.reg [⟨(some 5), .op (.mv (.tmp 0)), none⟩,
    ⟨(some 6), .call (.func i_spec_l00From) [(.tmp 5)], none⟩,
    ⟨(some 7), .op (.mv (.tmp 1)), none⟩,
    ⟨(some 8), .call (.func i_spec_l01Drawn) [(.tmp 6), (.tmp 7)], none⟩,
    ⟨(some 4), .op (.mv (.tmp 8)), none⟩]) (.kill [0, 1, 5, 6, 7, 8]))
  .ret))
theorem cf_spec_A2Word : chkFn Try.prog i_spec_A2Word ac_spec_A2Word [.tmp 4] 9 = true := by decide +kernel
def fa_spec_A2Word : FnA := ⟨ac_spec_A2Word, [.tmp 4], 9, false, true⟩

/-- The checked code of impl size bool . -/
def ac_impl_size_bool : AC := (.seq (.post (.reg [⟨(some 2), .op (.mv (.const (Value.int .i64 0))), none⟩]) (.kill [2]))
  (.seq (.post (.reg [⟨(some 3), .op (.mv (.tmp 0)), none⟩,
    ⟨(some 4), .op (.len false (.tmp 3)), none⟩,
    ⟨(some 2), .op (.mv (.tmp 4)), none⟩]) (.kill [0, 3, 4]))
  .ret))
theorem cf_impl_size_bool : chkFn Try.prog i_impl_size_bool ac_impl_size_bool [.tmp 2] 5 = true := by decide +kernel
def fa_impl_size_bool : FnA := ⟨ac_impl_size_bool, [.tmp 2], 5, false, true⟩

/-- The checked code of impl Checker  isState. -/
def ac_impl_Checker_isState : AC := (.seq (.post (.reg [⟨(some 2), .op (.box true (.tmp 0)), none⟩,
    ⟨(some 4), .op (.mv (.const (Value.bool false))), none⟩]) (.kill [0, 4]))
  (.seq (.post (.reg [⟨(some 5), .op (.mv (.tmp 1)), none⟩,
    ⟨(some 6), .op (.faddr (.tmp 2) 2), none⟩,
    ⟨(some 7), .op (.load 1 false (.tmp 6)), none⟩,
    ⟨(some 8), .call (.func i_impl_size_bool) [(.tmp 7)], none⟩,
    ⟨(some 9), .op (.bin .sub (.tmp 8) (.const (Value.int .i64 1))), none⟩,
    ⟨(some 10), .call (.func i_impl_within) [(.tmp 5), (.const (Value.int .i64 0)), (.tmp 9)], none⟩,
    ⟨(some 4), .op (.mv (.tmp 10)), none⟩]) (.kill [1, 2, 5, 6, 7, 8, 9, 10]))
  .ret))
theorem cf_impl_Checker_isState : chkFn Try.prog i_impl_Checker_isState ac_impl_Checker_isState [.tmp 4] 11 = true := by decide +kernel
def fa_impl_Checker_isState : FnA := ⟨ac_impl_Checker_isState, [.tmp 4], 11, false, true⟩

/-- The checked code of impl Checker  isMark. -/
def ac_impl_Checker_isMark : AC := (.seq (.post (.reg [⟨(some 2), .op (.box true (.tmp 0)), none⟩,
    ⟨(some 4), .op (.mv (.const (Value.bool false))), none⟩]) (.kill [0, 4]))
  (.seq (.post (.reg [⟨(some 5), .op (.mv (.tmp 1)), none⟩,
    ⟨(some 6), .op (.faddr (.tmp 2) 0), none⟩,
    ⟨(some 7), .op (.load 1 false (.tmp 6)), none⟩,
    ⟨(some 8), .op (.bin .sub (.tmp 7) (.const (Value.int .i64 1))), none⟩,
    ⟨(some 9), .call (.func i_impl_within) [(.tmp 5), (.const (Value.int .i64 0)), (.tmp 8)], none⟩,
    ⟨(some 4), .op (.mv (.tmp 9)), none⟩]) (.kill [1, 2, 5, 6, 7, 8, 9]))
  .ret))
theorem cf_impl_Checker_isMark : chkFn Try.prog i_impl_Checker_isMark ac_impl_Checker_isMark [.tmp 4] 10 = true := by decide +kernel
def fa_impl_Checker_isMark : FnA := ⟨ac_impl_Checker_isMark, [.tmp 4], 10, false, true⟩

/-- The checked code of impl Push . -/
def ac_impl_size_L_impl_Push : AC := (.seq (.post (.reg [⟨(some 2), .op (.mv (.const (Value.int .i64 0))), none⟩]) (.kill [2]))
  (.seq (.post (.reg [⟨(some 3), .op (.mv (.tmp 0)), none⟩,
    ⟨(some 4), .op (.len false (.tmp 3)), none⟩,
    ⟨(some 2), .op (.mv (.tmp 4)), none⟩]) (.kill [0, 3, 4]))
  .ret))
theorem cf_impl_size_L_impl_Push : chkFn Try.prog i_impl_size_L_impl_Push ac_impl_size_L_impl_Push [.tmp 2] 5 = true := by decide +kernel
def fa_impl_size_L_impl_Push : FnA := ⟨ac_impl_size_L_impl_Push, [.tmp 2], 5, false, true⟩

/-- The checked code of impl size     int64 . -/
def ac_impl_size_L_L_int64 : AC := (.seq (.post (.reg [⟨(some 2), .op (.mv (.const (Value.int .i64 0))), none⟩]) (.kill [2]))
  (.seq (.post (.reg [⟨(some 3), .op (.mv (.tmp 0)), none⟩,
    ⟨(some 4), .op (.len false (.tmp 3)), none⟩,
    ⟨(some 2), .op (.mv (.tmp 4)), none⟩]) (.kill [0, 3, 4]))
  .ret))
theorem cf_impl_size_L_L_int64 : chkFn Try.prog i_impl_size_L_L_int64 ac_impl_size_L_L_int64 [.tmp 2] 5 = true := by decide +kernel
def fa_impl_size_L_L_int64 : FnA := ⟨ac_impl_size_L_L_int64, [.tmp 2], 5, false, true⟩

/-- The checked code of impl size   int64 . -/
def ac_impl_size_L_int64 : AC := (.seq (.post (.reg [⟨(some 2), .op (.mv (.const (Value.int .i64 0))), none⟩]) (.kill [2]))
  (.seq (.post (.reg [⟨(some 3), .op (.mv (.tmp 0)), none⟩,
    ⟨(some 4), .op (.len false (.tmp 3)), none⟩,
    ⟨(some 2), .op (.mv (.tmp 4)), none⟩]) (.kill [0, 3, 4]))
  .ret))
theorem cf_impl_size_L_int64 : chkFn Try.prog i_impl_size_L_int64 ac_impl_size_L_int64 [.tmp 2] 5 = true := by decide +kernel
def fa_impl_size_L_int64 : FnA := ⟨ac_impl_size_L_int64, [.tmp 2], 5, false, true⟩

/-- The checked code of slices IndexFunc   int64 int64 . -/
def lb_slices_IndexFunc_L_int64_0 : AC := (.seq (.reg [⟨(some 9), .op (.bin .lss (.tmp 8) (.tmp 7)), none⟩])
  (.seq (.cond (.tmp 9) (.ghost (.kill [9]) .skip)
  (.ghost (.kill [0, 1, 7, 8, 9]) (.exit 0)))
  (.seq (.block 1 (.seq (.post (.reg [⟨(some 10), .op (.mv (.tmp 8)), none⟩,
    ⟨(some 5), .op (.mv (.tmp 10)), none⟩]) (.kill [10]))
  (.seq (.post (.reg [⟨(some 11), .op (.mv (.tmp 1)), none⟩,
    ⟨(some 12), .op (.mv (.tmp 0)), none⟩,
    ⟨(some 13), .op (.mv (.tmp 5)), none⟩,
    ⟨(some 14), .op (.iaddrS (.tmp 12) (.tmp 13) 1), none⟩,
    ⟨(some 15), .op (.load 1 false (.tmp 14)), none⟩,
    ⟨(some 16), .call (.tmp 11) [(.tmp 15)], none⟩]) (.kill [11, 12, 13, 14, 15]))
  (.cond (.tmp 16) (.ghost (.kill [0, 1, 7, 8, 16]) (.seq (.post (.reg [⟨(some 17), .op (.mv (.tmp 5)), none⟩,
    ⟨(some 4), .op (.mv (.tmp 17)), none⟩]) (.kill [5, 17]))
  .ret))
  (.ghost (.kill [5, 16]) .skip)))))
  (.post (.reg [⟨(some 18), .op (.bin .add (.tmp 8) (.const (Value.int .i64 1))), none⟩,
    ⟨(some 8), .op (.mv (.tmp 18)), none⟩]) (.kill [18])))))
def lo_slices_IndexFunc_L_int64_0 : AC := (.loop lb_slices_IndexFunc_L_int64_0)
def ac_slices_IndexFunc_L_int64 : AC := (.seq (.post (.reg [⟨(some 4), .op (.mv (.const (Value.int .i64 0))), none⟩]) (.kill [4]))
  (.seq (.seq (.post (.reg [⟨(some 6), .op (.mv (.tmp 0)), none⟩,
    ⟨(some 7), .op (.len false (.tmp 6)), none⟩,
    ⟨(some 8), .op (.mv (.const (Value.int .i64 0))), none⟩]) (.kill [6]))
  (.block 0 lo_slices_IndexFunc_L_int64_0))
  (.ghost (.kill [0, 1, 7, 8]) (.seq (.reg [⟨(some 4), .op (.mv (.const (Value.int .i64 (-1)))), none⟩])
  .ret))))
theorem cf_slices_IndexFunc_L_int64 : chkFn Try.prog i_slices_IndexFunc_L_int64 ac_slices_IndexFunc_L_int64 [.tmp 4] 19 = true := by decide +kernel
def fa_slices_IndexFunc_L_int64 : FnA := ⟨ac_slices_IndexFunc_L_int64, [.tmp 4], 19, false, true⟩

/-- The checked code of slices ContainsFunc   int64 int64 . -/
def ac_slices_ContainsFunc_L_int64 : AC := (.seq (.post (.reg [⟨(some 4), .op (.mv (.const (Value.bool false))), none⟩]) (.kill [4]))
  (.seq (.post (.reg [⟨(some 5), .op (.mv (.tmp 0)), none⟩,
    ⟨(some 6), .op (.mv (.tmp 1)), none⟩,
    ⟨(some 7), .call (.func i_slices_IndexFunc_L_int64) [(.tmp 5), (.tmp 6)], none⟩,
    ⟨(some 8), .op (.bin .geq (.tmp 7) (.const (Value.int .i64 0))), none⟩,
    ⟨(some 4), .op (.mv (.tmp 8)), none⟩]) (.kill [0, 1, 5, 6, 7, 8]))
  .ret))
theorem cf_slices_ContainsFunc_L_int64 : chkFn Try.prog i_slices_ContainsFunc_L_int64 ac_slices_ContainsFunc_L_int64 [.tmp 4] 9 = true := by decide +kernel
def fa_slices_ContainsFunc_L_int64 : FnA := ⟨ac_slices_ContainsFunc_L_int64, [.tmp 4], 9, false, true⟩

/-- The checked code of impl ValidChecker 1 1. -/
def ac_impl_ValidChecker_1_1 : AC := (.seq (.post (.reg [⟨(some 3), .op (.mv (.const (Value.bool false))), none⟩]) (.kill [3]))
  (.seq (.post (.reg [⟨(some 4), .op (.load 6 true (.tmp 1)), none⟩,
    ⟨(some 5), .op (.mv (.tmp 0)), none⟩,
    ⟨(some 6), .call (.func i_impl_Checker_isState) [(.tmp 4), (.tmp 5)], none⟩,
    ⟨(some 7), .op (.un .not (.tmp 6)), none⟩,
    ⟨(some 3), .op (.mv (.tmp 7)), none⟩]) (.kill [0, 1, 4, 5, 6, 7]))
  .ret))
theorem cf_impl_ValidChecker_1_1 : chkFn Try.prog i_impl_ValidChecker_1_1 ac_impl_ValidChecker_1_1 [.tmp 3] 8 = true := by decide +kernel
def fa_impl_ValidChecker_1_1 : FnA := ⟨ac_impl_ValidChecker_1_1, [.tmp 3], 8, false, true⟩

/-- The checked code of impl ValidChecker 1. -/
def ac_impl_ValidChecker_1 : AC := (.seq (.post (.reg [⟨(some 5), .op (.mv (.const (Value.bool false))), none⟩]) (.kill [5]))
  (.seq (.post (.reg [⟨(some 6), .op (.mv (.tmp 0)), none⟩,
    ⟨(some 7), .call (.func i_impl_size_int64) [(.tmp 6)], none⟩,
    ⟨(some 8), .op (.mv (.tmp 1)), none⟩,
    ⟨(some 9), .op (.bin .eql (.tmp 7) (.tmp 8)), none⟩,
    ⟨(some 10), .op (.mv (.tmp 9)), none⟩,
    ⟨(some 11), .op (.mv (.tmp 0)), some (10, true)⟩,
    ⟨(some 12), .op (.mkfn i_impl_ValidChecker_1_1 [(.tmp 2)]), some (10, true)⟩,
    ⟨(some 13), .call (.func i_slices_ContainsFunc_L_int64) [(.tmp 11), (.tmp 12)], some (10, true)⟩,
    ⟨(some 14), .op (.un .not (.tmp 13)), some (10, true)⟩,
    ⟨(some 15), .op (.pick (.tmp 10) (.tmp 14) (.const (Value.bool false))), none⟩,
    ⟨(some 5), .op (.mv (.tmp 15)), none⟩]) (.kill [0, 1, 2, 6, 7, 8, 9, 10, 11, 12, 13, 14, 15]))
  .ret))
theorem cf_impl_ValidChecker_1 : chkFn Try.prog i_impl_ValidChecker_1 ac_impl_ValidChecker_1 [.tmp 5] 16 = true := by decide +kernel
def fa_impl_ValidChecker_1 : FnA := ⟨ac_impl_ValidChecker_1, [.tmp 5], 16, false, true⟩

/-- The checked code of impl ValidChecker. -/
def lb_impl_ValidChecker_0 : AC := (.post (.seq (.reg [⟨(some 80), .op (.bin .lss (.tmp 79) (.const (Value.int .i64 2))), none⟩])
  (.seq (.cond (.tmp 80) (.ghost (.kill [80]) .skip)
  (.ghost (.kill [5, 79, 80]) (.exit 2)))
  (.seq (.block 3 (.seq (.post (.reg [⟨(some 81), .op (.mv (.tmp 79)), none⟩,
    ⟨(some 6), .op (.mv (.tmp 81)), none⟩]) (.kill [81]))
  (.seq (.post (.reg [⟨(some 82), .op (.faddr (.tmp 1) 3), none⟩,
    ⟨(some 83), .op (.load 1 false (.tmp 82)), none⟩,
    ⟨(some 84), .op (.mv (.tmp 5)), none⟩,
    ⟨(some 85), .op (.iaddrS (.tmp 83) (.tmp 84) 1), none⟩,
    ⟨(some 86), .op (.load 1 false (.tmp 85)), none⟩,
    ⟨(some 87), .op (.mv (.tmp 6)), none⟩,
    ⟨(some 88), .op (.iaddrS (.tmp 86) (.tmp 87) 2), none⟩,
    ⟨(some 89), .op (.load 2 true (.tmp 88)), none⟩,
    ⟨(some 7), .op (.alloc (Value.agg #[Value.int .i64 0, Value.int .i64 0])), none⟩,
    ⟨none, .op (.store 2 (.tmp 7) (.tmp 89)), none⟩]) (.kill [82, 83, 84, 85, 86, 87, 88, 89]))
  (.seq (.post (.draw [⟨0, ⟨(some 90), .op (.load 6 true (.tmp 1)), none⟩, []⟩,
    ⟨1, ⟨(some 91), .op (.faddr (.tmp 7) 0), none⟩, []⟩,
    ⟨2, ⟨(some 92), .op (.load 1 false (.tmp 91)), none⟩, []⟩,
    ⟨3, ⟨(some 93), .call (.func i_impl_Checker_isState) [(.tmp 90), (.tmp 92)], none⟩, []⟩,
    ⟨4, ⟨(some 94), .op (.un .not (.tmp 93)), none⟩, []⟩,
    ⟨5, ⟨(some 95), .op (.mv (.tmp 94)), none⟩, []⟩,
    ⟨6, ⟨(some 96), .op (.load 6 true (.tmp 1)), some (95, false)⟩, []⟩,
    ⟨7, ⟨(some 97), .op (.faddr (.tmp 7) 1), some (95, false)⟩, []⟩,
    ⟨8, ⟨(some 98), .op (.load 1 false (.tmp 97)), some (95, false)⟩, []⟩,
    ⟨9, ⟨(some 99), .call (.func i_impl_Checker_isMark) [(.tmp 96), (.tmp 98)], some (95, false)⟩, []⟩,
    ⟨10, ⟨(some 100), .op (.un .not (.tmp 99)), some (95, false)⟩, []⟩,
    ⟨11, ⟨(some 101), .op (.pick (.tmp 95) (.const (Value.bool true)) (.tmp 100)), none⟩, []⟩,
    ⟨12, ⟨(some 102), .op (.mv (.tmp 101)), none⟩, []⟩,
    ⟨13, ⟨(some 103), .op (.mv (.tmp 4)), some (102, false)⟩, []⟩,
    ⟨14, ⟨(some 104), .op (.faddr (.tmp 1) 4), some (102, false)⟩, []⟩,
    ⟨15, ⟨(some 105), .op (.load 1 false (.tmp 104)), some (102, false)⟩, []⟩,
    ⟨16, ⟨(some 106), .op (.mv (.tmp 5)), some (102, false)⟩, []⟩,
    ⟨17, ⟨(some 107), .op (.iaddrS (.tmp 105) (.tmp 106) 1), some (102, false)⟩, []⟩,
    ⟨18, ⟨(some 108), .op (.load 1 false (.tmp 107)), some (102, false)⟩, []⟩,
    ⟨19, ⟨(some 109), .op (.mv (.tmp 6)), some (102, false)⟩, []⟩,
    ⟨20, ⟨(some 110), .op (.iaddrS (.tmp 108) (.tmp 109) 1), some (102, false)⟩, []⟩,
    ⟨21, ⟨(some 111), .op (.load 1 false (.tmp 110)), some (102, false)⟩, []⟩,
    ⟨22, ⟨(some 112), .op (.faddr (.tmp 1) 0), some (102, false)⟩, []⟩,
    ⟨23, ⟨(some 113), .op (.load 1 false (.tmp 112)), some (102, false)⟩, []⟩,
    ⟨24, ⟨(some 114), .op (.bin .add (.tmp 113) (.const (Value.int .i64 1))), some (102, false)⟩, []⟩,
    ⟨25, ⟨(some 115), .call (.tmp 103) [(.tmp 111), (.tmp 114)], some (102, false)⟩, []⟩,
    ⟨26, ⟨(some 116), .op (.un .not (.tmp 115)), some (102, false)⟩, []⟩,
    ⟨27, ⟨(some 117), .op (.pick (.tmp 102) (.const (Value.bool true)) (.tmp 116)), none⟩, []⟩]
    [0, 0, 2, 7, 15, 31, 63, 63, 191, 511, 1023, 2047, 4095, 8191, 8191, 24575, 8191, 122879, 253951, 8191, 1040383, 2088959, 8191, 4202495, 12591103, 33554431, 67108863, 134217727]) (.kill [6, 7, 90, 91, 92, 93, 94, 95, 96, 97, 98, 99, 100, 101, 102, 103, 104, 105, 106, 107, 108, 109, 110, 111, 112, 113, 114, 115, 116]))
  (.cond (.tmp 117) (.ghost (.kill [1, 4, 5, 49, 50, 79, 117]) (.seq (.reg [⟨(some 2), .op (.mv (.const (Value.bool false))), none⟩])
  .ret))
  (.ghost (.kill [117]) .skip))))))
  (.post (.reg [⟨(some 118), .op (.bin .add (.tmp 79) (.const (Value.int .i64 1))), none⟩,
    ⟨(some 79), .op (.mv (.tmp 118)), none⟩]) (.kill [118]))))) .nv)
def lo_impl_ValidChecker_0 : AC := (.loop lb_impl_ValidChecker_0)
def lb_impl_ValidChecker_1 : AC := (.post (.seq (.reg [⟨(some 51), .op (.bin .lss (.tmp 50) (.tmp 49)), none⟩])
  (.seq (.cond (.tmp 51) (.ghost (.kill [51]) .skip)
  (.ghost (.kill [1, 4, 49, 50, 51]) (.exit 0)))
  (.seq (.block 1 (.seq (.post (.reg [⟨(some 52), .op (.mv (.tmp 50)), none⟩,
    ⟨(some 5), .op (.mv (.tmp 52)), none⟩]) (.kill [52]))
  (.seq (.seq (.post (.reg [⟨(some 53), .op (.faddr (.tmp 1) 3), none⟩,
    ⟨(some 54), .op (.load 1 false (.tmp 53)), none⟩,
    ⟨(some 55), .op (.mv (.tmp 5)), none⟩,
    ⟨(some 56), .op (.iaddrS (.tmp 54) (.tmp 55) 1), none⟩,
    ⟨(some 57), .op (.load 1 false (.tmp 56)), none⟩,
    ⟨(some 58), .op (.len false (.tmp 57)), none⟩,
    ⟨(some 59), .op (.bin .neq (.tmp 58) (.const (Value.int .i64 2))), none⟩,
    ⟨(some 60), .op (.mv (.tmp 59)), none⟩,
    ⟨(some 61), .op (.faddr (.tmp 1) 4), some (60, false)⟩,
    ⟨(some 62), .op (.load 1 false (.tmp 61)), some (60, false)⟩,
    ⟨(some 63), .op (.mv (.tmp 5)), some (60, false)⟩,
    ⟨(some 64), .op (.iaddrS (.tmp 62) (.tmp 63) 1), some (60, false)⟩,
    ⟨(some 65), .op (.load 1 false (.tmp 64)), some (60, false)⟩,
    ⟨(some 66), .op (.len false (.tmp 65)), some (60, false)⟩,
    ⟨(some 67), .op (.bin .neq (.tmp 66) (.const (Value.int .i64 2))), some (60, false)⟩,
    ⟨(some 68), .op (.pick (.tmp 60) (.const (Value.bool true)) (.tmp 67)), none⟩,
    ⟨(some 69), .op (.mv (.tmp 68)), none⟩,
    ⟨(some 70), .op (.mv (.tmp 4)), some (69, false)⟩,
    ⟨(some 71), .op (.faddr (.tmp 1) 5), some (69, false)⟩,
    ⟨(some 72), .op (.load 1 false (.tmp 71)), some (69, false)⟩,
    ⟨(some 73), .op (.mv (.tmp 5)), some (69, false)⟩,
    ⟨(some 74), .op (.iaddrS (.tmp 72) (.tmp 73) 1), some (69, false)⟩,
    ⟨(some 75), .op (.load 1 false (.tmp 74)), some (69, false)⟩,
    ⟨(some 76), .call (.tmp 70) [(.tmp 75), (.const (Value.int .i64 2))], some (69, false)⟩,
    ⟨(some 77), .op (.un .not (.tmp 76)), some (69, false)⟩,
    ⟨(some 78), .op (.pick (.tmp 69) (.const (Value.bool true)) (.tmp 77)), none⟩]) (.kill [53, 54, 55, 56, 57, 58, 59, 60, 61, 62, 63, 64, 65, 66, 67, 68, 69, 70, 71, 72, 73, 74, 75, 76, 77]))
  (.cond (.tmp 78) (.ghost (.kill [1, 4, 5, 49, 50, 78]) (.seq (.reg [⟨(some 2), .op (.mv (.const (Value.bool false))), none⟩])
  .ret))
  (.ghost (.kill [78]) .skip)))
  (.seq (.reg [⟨(some 79), .op (.mv (.const (Value.int .i64 0))), none⟩])
  (.post (.block 2 (.ghost .nv lo_impl_ValidChecker_0)) .nv)))))
  (.ghost (.kill [5, 79]) (.post (.reg [⟨(some 119), .op (.bin .add (.tmp 50) (.const (Value.int .i64 1))), none⟩,
    ⟨(some 50), .op (.mv (.tmp 119)), none⟩]) (.kill [119])))))) .nv)
def lo_impl_ValidChecker_1 : AC := (.loop lb_impl_ValidChecker_1)
def ac_impl_ValidChecker : AC := (.seq (.post (.reg [⟨(some 1), .op (.box true (.tmp 0)), none⟩,
    ⟨(some 2), .op (.mv (.const (Value.bool false))), none⟩]) (.kill [0, 2]))
  (.seq (.post (.reg [⟨(some 8), .op (.faddr (.tmp 1) 2), none⟩,
    ⟨(some 9), .op (.load 1 false (.tmp 8)), none⟩,
    ⟨(some 10), .call (.func i_impl_size_bool) [(.tmp 9)], none⟩,
    ⟨(some 3), .op (.mv (.tmp 10)), none⟩]) (.kill [8, 9, 10]))
  (.seq (.seq (.post (.reg [⟨(some 11), .op (.mv (.tmp 3)), none⟩,
    ⟨(some 12), .call (.func i_impl_within) [(.tmp 11), (.const (Value.int .i64 1)), (.const (Value.int .i64 40))], none⟩,
    ⟨(some 13), .op (.un .not (.tmp 12)), none⟩,
    ⟨(some 14), .op (.mv (.tmp 13)), none⟩,
    ⟨(some 15), .op (.faddr (.tmp 1) 0), some (14, false)⟩,
    ⟨(some 16), .op (.load 1 false (.tmp 15)), some (14, false)⟩,
    ⟨(some 17), .call (.func i_impl_within) [(.tmp 16), (.const (Value.int .i64 1)), (.const (Value.int .i64 80))], some (14, false)⟩,
    ⟨(some 18), .op (.un .not (.tmp 17)), some (14, false)⟩,
    ⟨(some 19), .op (.pick (.tmp 14) (.const (Value.bool true)) (.tmp 18)), none⟩,
    ⟨(some 20), .op (.mv (.tmp 19)), none⟩,
    ⟨(some 21), .op (.load 6 true (.tmp 1)), some (20, false)⟩,
    ⟨(some 22), .op (.faddr (.tmp 1) 1), some (20, false)⟩,
    ⟨(some 23), .op (.load 1 false (.tmp 22)), some (20, false)⟩,
    ⟨(some 24), .call (.func i_impl_Checker_isState) [(.tmp 21), (.tmp 23)], some (20, false)⟩,
    ⟨(some 25), .op (.un .not (.tmp 24)), some (20, false)⟩,
    ⟨(some 26), .op (.pick (.tmp 20) (.const (Value.bool true)) (.tmp 25)), none⟩,
    ⟨(some 27), .op (.mv (.tmp 26)), none⟩,
    ⟨(some 28), .op (.faddr (.tmp 1) 3), some (27, false)⟩,
    ⟨(some 29), .op (.load 1 false (.tmp 28)), some (27, false)⟩,
    ⟨(some 30), .call (.func i_impl_size_L_impl_Push) [(.tmp 29)], some (27, false)⟩,
    ⟨(some 31), .op (.mv (.tmp 3)), some (27, false)⟩,
    ⟨(some 32), .op (.bin .neq (.tmp 30) (.tmp 31)), some (27, false)⟩,
    ⟨(some 33), .op (.pick (.tmp 27) (.const (Value.bool true)) (.tmp 32)), none⟩,
    ⟨(some 34), .op (.mv (.tmp 33)), none⟩,
    ⟨(some 35), .op (.faddr (.tmp 1) 4), some (34, false)⟩,
    ⟨(some 36), .op (.load 1 false (.tmp 35)), some (34, false)⟩,
    ⟨(some 37), .call (.func i_impl_size_L_L_int64) [(.tmp 36)], some (34, false)⟩,
    ⟨(some 38), .op (.mv (.tmp 3)), some (34, false)⟩,
    ⟨(some 39), .op (.bin .neq (.tmp 37) (.tmp 38)), some (34, false)⟩,
    ⟨(some 40), .op (.pick (.tmp 34) (.const (Value.bool true)) (.tmp 39)), none⟩,
    ⟨(some 41), .op (.mv (.tmp 40)), none⟩,
    ⟨(some 42), .op (.faddr (.tmp 1) 5), some (41, false)⟩,
    ⟨(some 43), .op (.load 1 false (.tmp 42)), some (41, false)⟩,
    ⟨(some 44), .call (.func i_impl_size_L_int64) [(.tmp 43)], some (41, false)⟩,
    ⟨(some 45), .op (.mv (.tmp 3)), some (41, false)⟩,
    ⟨(some 46), .op (.bin .neq (.tmp 44) (.tmp 45)), some (41, false)⟩,
    ⟨(some 47), .op (.pick (.tmp 41) (.const (Value.bool true)) (.tmp 46)), none⟩]) (.kill [11, 12, 13, 14, 15, 16, 17, 18, 19, 20, 21, 22, 23, 24, 25, 26, 27, 28, 29, 30, 31, 32, 33, 34, 35, 36, 37, 38, 39, 40, 41, 42, 43, 44, 45, 46]))
  (.cond (.tmp 47) (.ghost (.kill [1, 3, 47]) (.seq (.reg [⟨(some 2), .op (.mv (.const (Value.bool false))), none⟩])
  .ret))
  (.ghost (.kill [47]) .skip)))
  (.seq (.post (.reg [⟨(some 48), .op (.mkfn i_impl_ValidChecker_1 [(.tmp 1)]), none⟩,
    ⟨(some 4), .op (.mv (.tmp 48)), none⟩]) (.kill [48]))
  (.seq (.seq (.post (.reg [⟨(some 49), .op (.mv (.tmp 3)), none⟩,
    ⟨(some 50), .op (.mv (.const (Value.int .i64 0))), none⟩]) (.kill [3]))
  (.post (.block 0 (.ghost .nv lo_impl_ValidChecker_1)) .nv))
  (.ghost (.kill [1, 4, 49, 50]) (.seq (.reg [⟨(some 2), .op (.mv (.const (Value.bool true))), none⟩])
  .ret)))))))
theorem cf_impl_ValidChecker : chkFn Try.prog i_impl_ValidChecker ac_impl_ValidChecker [.tmp 2] 120 = true := by decide +kernel
def fa_impl_ValidChecker : FnA := ⟨ac_impl_ValidChecker, [.tmp 2], 120, false, true⟩

/-- The checked code of slices Clone   int64 int64 . -/
def ac_slices_Clone_L_int64 : AC := (.seq (.post (.reg [⟨(some 2), .op (.mv (.const (Value.slice none 0 0))), none⟩]) (.kill [2]))
  (.seq (.seq (.post (.reg [⟨(some 3), .op (.mv (.tmp 0)), none⟩,
    ⟨(some 4), .op (.eqnil false false .s (.tmp 3)), none⟩]) (.kill [3]))
  (.cond (.tmp 4) (.ghost (.kill [0, 4]) (.seq (.reg [⟨(some 2), .op (.mv (.const (Value.slice none 0 0))), none⟩])
  .ret))
  (.ghost (.kill [4]) .skip)))
  (.seq (.post (.reg [⟨(some 5), .op (.lits true 1 0 (Value.int .i64 0) []), none⟩,
    ⟨(some 6), .op (.mv (.tmp 0)), none⟩,
    ⟨(some 7), .op (.append (.tmp 5) (.tmp 6) 1 8), none⟩,
    ⟨(some 2), .op (.mv (.tmp 7)), none⟩]) (.kill [0, 5, 6, 7]))
  .ret)))
theorem cf_slices_Clone_L_int64 : chkFn Try.prog i_slices_Clone_L_int64 ac_slices_Clone_L_int64 [.tmp 2] 8 = true := by decide +kernel
def fa_slices_Clone_L_int64 : FnA := ⟨ac_slices_Clone_L_int64, [.tmp 2], 8, false, true⟩

/-- The checked code of impl isInner. -/
def ac_impl_isInner : AC := (.seq (.post (.reg [⟨(some 2), .op (.mv (.const (Value.bool false))), none⟩]) (.kill [2]))
  (.seq (.post (.reg [⟨(some 3), .op (.mv (.tmp 0)), none⟩,
    ⟨(some 4), .op (.bin .eql (.tmp 3) (.const (Value.int .u8 97))), none⟩,
    ⟨(some 5), .op (.mv (.tmp 4)), none⟩,
    ⟨(some 6), .op (.mv (.tmp 0)), some (5, false)⟩,
    ⟨(some 7), .op (.bin .eql (.tmp 6) (.const (Value.int .u8 98))), some (5, false)⟩,
    ⟨(some 8), .op (.pick (.tmp 5) (.const (Value.bool true)) (.tmp 7)), none⟩,
    ⟨(some 2), .op (.mv (.tmp 8)), none⟩]) (.kill [0, 3, 4, 5, 6, 7, 8]))
  .ret))
theorem cf_impl_isInner : chkFn Try.prog i_impl_isInner ac_impl_isInner [.tmp 2] 9 = true := by decide +kernel
def fa_impl_isInner : FnA := ⟨ac_impl_isInner, [.tmp 2], 9, false, true⟩

/-- The checked code of impl kindOf. -/
def ac_impl_kindOf : AC := (.seq (.post (.reg [⟨(some 2), .op (.mv (.const (Value.int .i64 0))), none⟩]) (.kill [2]))
  (.seq (.post (.reg [⟨(some 3), .op (.mv (.tmp 0)), none⟩,
    ⟨(some 4), .call (.func i_strings_IndexByte) [(.const (Value.string ⟨#[40, 91, 41, 93, 97, 98]⟩)), (.tmp 3)], none⟩,
    ⟨(some 5), .op (.bin .rem (.tmp 4) (.const (Value.int .i64 2))), none⟩,
    ⟨(some 2), .op (.mv (.tmp 5)), none⟩]) (.kill [0, 3, 4, 5]))
  .ret))
theorem cf_impl_kindOf : chkFn Try.prog i_impl_kindOf ac_impl_kindOf [.tmp 2] 6 = true := by decide +kernel
def fa_impl_kindOf : FnA := ⟨ac_impl_kindOf, [.tmp 2], 6, false, true⟩

/-- The checked code of impl Checker  step. -/
def ac_impl_Checker_step : AC := (.seq (.post (.reg [⟨(some 4), .op (.box true (.tmp 0)), none⟩,
    ⟨(some 8), .op (.mv (.const (Value.int .i64 0))), none⟩,
    ⟨(some 9), .op (.mv (.const (Value.slice none 0 0))), none⟩]) (.kill [0, 8, 9]))
  (.seq (.post (.reg [⟨(some 14), .op (.mv (.tmp 3)), none⟩,
    ⟨(some 15), .call (.func i_impl_kindOf) [(.tmp 14)], none⟩,
    ⟨(some 10), .op (.mv (.tmp 15)), none⟩]) (.kill [14, 15]))
  (.seq (.block 0 (.seq (.post (.reg [⟨(some 17), .op (.mv (.tmp 3)), none⟩,
    ⟨(some 18), .call (.func i_impl_isCall) [(.tmp 17)], none⟩,
    ⟨(some 16), .op (.mv (.tmp 18)), none⟩]) (.kill [17, 18]))
  (.cond (.tmp 16) (.ghost (.kill [3, 16]) (.seq (.post (.reg [⟨(some 19), .op (.faddr (.tmp 4) 3), none⟩,
    ⟨(some 20), .op (.load 1 false (.tmp 19)), none⟩,
    ⟨(some 21), .op (.mv (.tmp 1)), none⟩,
    ⟨(some 22), .op (.iaddrS (.tmp 20) (.tmp 21) 1), none⟩,
    ⟨(some 23), .op (.load 1 false (.tmp 22)), none⟩,
    ⟨(some 24), .op (.mv (.tmp 10)), none⟩,
    ⟨(some 25), .op (.iaddrS (.tmp 23) (.tmp 24) 2), none⟩,
    ⟨(some 26), .op (.load 2 true (.tmp 25)), none⟩,
    ⟨(some 11), .op (.alloc (Value.agg #[Value.int .i64 0, Value.int .i64 0])), none⟩,
    ⟨none, .op (.store 2 (.tmp 11) (.tmp 26)), none⟩]) (.kill [1, 4, 10, 19, 20, 21, 22, 23, 24, 25, 26]))
  (.seq (.post (.draw [⟨0, ⟨(some 27), .op (.faddr (.tmp 11) 0), none⟩, []⟩,
    ⟨1, ⟨(some 28), .op (.load 1 false (.tmp 27)), none⟩, []⟩,
    ⟨2, ⟨(some 29), .op (.mv (.tmp 2)), none⟩, []⟩,
    ⟨4, ⟨(some 31), .op (.faddr (.tmp 11) 1), none⟩, []⟩,
    ⟨5, ⟨(some 32), .op (.load 1 false (.tmp 31)), none⟩, []⟩,
    ⟨6, ⟨(some 33), .op (.lits true 1 1 (Value.int .i64 0) [(0, (.tmp 32))]), none⟩, []⟩,
    ⟨3, ⟨(some 30), .call (.func i_slices_Clone_L_int64) [(.tmp 29)], none⟩, [1, 5]⟩,
    ⟨7, ⟨(some 34), .op (.append (.tmp 30) (.tmp 33) 1 8), none⟩, [1]⟩,
    ⟨8, ⟨(some 8), .op (.mv (.tmp 28)), none⟩, []⟩,
    ⟨9, ⟨(some 9), .op (.mv (.tmp 34)), none⟩, []⟩]
    [0, 1, 0, 4, 0, 16, 48, 124, 255, 511]) (.kill [2, 11, 27, 28, 29, 30, 31, 32, 33, 34]))
  .ret)))
  (.ghost (.kill [16]) (.seq (.post (.reg [⟨(some 36), .op (.mv (.tmp 3)), none⟩,
    ⟨(some 37), .call (.func i_impl_isInner) [(.tmp 36)], none⟩,
    ⟨(some 35), .op (.mv (.tmp 37)), none⟩]) (.kill [3, 36, 37]))
  (.cond (.tmp 35) (.ghost (.kill [35]) (.seq (.post (.reg [⟨(some 38), .op (.faddr (.tmp 4) 5), none⟩,
    ⟨(some 39), .op (.load 1 false (.tmp 38)), none⟩,
    ⟨(some 40), .op (.mv (.tmp 1)), none⟩,
    ⟨(some 41), .op (.iaddrS (.tmp 39) (.tmp 40) 1), none⟩,
    ⟨(some 42), .op (.load 1 false (.tmp 41)), none⟩,
    ⟨(some 43), .op (.mv (.tmp 10)), none⟩,
    ⟨(some 44), .op (.iaddrS (.tmp 42) (.tmp 43) 1), none⟩,
    ⟨(some 45), .op (.load 1 false (.tmp 44)), none⟩,
    ⟨(some 46), .op (.mv (.tmp 2)), none⟩,
    ⟨(some 8), .op (.mv (.tmp 45)), none⟩,
    ⟨(some 9), .op (.mv (.tmp 46)), none⟩]) (.kill [1, 2, 4, 10, 38, 39, 40, 41, 42, 43, 44, 45, 46]))
  .ret))
  (.ghost (.kill [35]) .skip)))))))
  (.seq (.post (.reg [⟨(some 47), .op (.faddr (.tmp 4) 0), none⟩,
    ⟨(some 48), .op (.load 1 false (.tmp 47)), none⟩,
    ⟨(some 12), .op (.mv (.tmp 48)), none⟩]) (.kill [47, 48]))
  (.seq (.seq (.post (.reg [⟨(some 49), .op (.mv (.tmp 2)), none⟩,
    ⟨(some 50), .op (.len false (.tmp 49)), none⟩,
    ⟨(some 13), .op (.mv (.tmp 50)), none⟩]) (.kill [49, 50]))
  (.seq (.post (.reg [⟨(some 51), .op (.mv (.tmp 13)), none⟩,
    ⟨(some 52), .op (.bin .gtr (.tmp 51) (.const (Value.int .i64 0))), none⟩]) (.kill [51]))
  (.cond (.tmp 52) (.ghost (.kill [12, 52]) (.post (.draw [⟨0, ⟨(some 53), .op (.mv (.tmp 2)), none⟩, []⟩,
    ⟨1, ⟨(some 54), .op (.mv (.tmp 13)), none⟩, []⟩,
    ⟨2, ⟨(some 55), .op (.bin .sub (.tmp 54) (.const (Value.int .i64 1))), none⟩, []⟩,
    ⟨3, ⟨(some 56), .op (.iaddrS (.tmp 53) (.tmp 55) 1), none⟩, []⟩,
    ⟨4, ⟨(some 57), .op (.load 1 false (.tmp 56)), none⟩, []⟩,
    ⟨5, ⟨(some 58), .op (.mv (.tmp 2)), none⟩, []⟩,
    ⟨6, ⟨(some 59), .op (.mv (.tmp 13)), none⟩, []⟩,
    ⟨7, ⟨(some 60), .op (.bin .sub (.tmp 59) (.const (Value.int .i64 1))), none⟩, []⟩,
    ⟨8, ⟨(some 61), .op (.slcS (.tmp 58) none (some (.tmp 60)) none 1), none⟩, []⟩,
    ⟨9, ⟨(some 12), .op (.mv (.tmp 57)), none⟩, []⟩,
    ⟨10, ⟨(some 2), .op (.mv (.tmp 61)), none⟩, []⟩]
    [0, 0, 2, 7, 15, 0, 0, 64, 224, 31, 1023]) (.kill [13, 53, 54, 55, 56, 57, 58, 59, 60, 61])))
  (.ghost (.kill [13, 52]) .skip))))
  (.seq (.post (.reg [⟨(some 62), .op (.faddr (.tmp 4) 4), none⟩,
    ⟨(some 63), .op (.load 1 false (.tmp 62)), none⟩,
    ⟨(some 64), .op (.mv (.tmp 1)), none⟩,
    ⟨(some 65), .op (.iaddrS (.tmp 63) (.tmp 64) 1), none⟩,
    ⟨(some 66), .op (.load 1 false (.tmp 65)), none⟩,
    ⟨(some 67), .op (.mv (.tmp 10)), none⟩,
    ⟨(some 68), .op (.iaddrS (.tmp 66) (.tmp 67) 1), none⟩,
    ⟨(some 69), .op (.load 1 false (.tmp 68)), none⟩,
    ⟨(some 70), .op (.mv (.tmp 12)), none⟩,
    ⟨(some 71), .op (.iaddrS (.tmp 69) (.tmp 70) 1), none⟩,
    ⟨(some 72), .op (.load 1 false (.tmp 71)), none⟩,
    ⟨(some 73), .op (.mv (.tmp 2)), none⟩,
    ⟨(some 8), .op (.mv (.tmp 72)), none⟩,
    ⟨(some 9), .op (.mv (.tmp 73)), none⟩]) (.kill [1, 2, 4, 10, 12, 62, 63, 64, 65, 66, 67, 68, 69, 70, 71, 72, 73]))
  .ret))))))
theorem cf_impl_Checker_step : chkFn Try.prog i_impl_Checker_step ac_impl_Checker_step [.tmp 8, .tmp 9] 74 = true := by decide +kernel
def fa_impl_Checker_step : FnA := ⟨ac_impl_Checker_step, [.tmp 8, .tmp 9], 74, false, true⟩

/-- The checked code of impl Checker  run. -/
def lb_impl_Checker_run_0 : AC := (.seq (.reg [⟨(some 18), .op (.bin .lss (.tmp 17) (.tmp 16)), none⟩])
  (.seq (.cond (.tmp 18) (.ghost (.kill [18]) .skip)
  (.ghost (.kill [1, 2, 3, 4, 5, 16, 17, 18]) (.exit 0)))
  (.seq (.block 1 (.seq (.post (.reg [⟨(some 19), .op (.mv (.tmp 17)), none⟩,
    ⟨(some 10), .op (.mv (.tmp 19)), none⟩]) (.kill [19]))
  (.seq (.post (.draw [⟨0, ⟨(some 21), .op (.load 6 true (.tmp 5)), none⟩, []⟩,
    ⟨1, ⟨(some 22), .op (.mv (.tmp 1)), none⟩, []⟩,
    ⟨2, ⟨(some 23), .op (.mv (.tmp 2)), none⟩, []⟩,
    ⟨3, ⟨(some 24), .op (.mv (.tmp 3)), none⟩, []⟩,
    ⟨4, ⟨(some 25), .op (.mv (.tmp 10)), none⟩, []⟩,
    ⟨5, ⟨(some 26), .op (.idxStr (.tmp 24) (.tmp 25)), none⟩, []⟩,
    ⟨6, ⟨(some 27), .call (.func i_impl_Checker_step) [(.tmp 21), (.tmp 22), (.tmp 23), (.tmp 26)], none⟩, []⟩,
    ⟨7, ⟨(some 20), .op (.mv (.tmp 27)), none⟩, []⟩,
    ⟨8, ⟨(some 28), .op (.ext (.tmp 20) 0), none⟩, []⟩,
    ⟨9, ⟨(some 29), .op (.ext (.tmp 20) 1), none⟩, []⟩,
    ⟨10, ⟨(some 1), .op (.mv (.tmp 28)), none⟩, []⟩,
    ⟨11, ⟨(some 2), .op (.mv (.tmp 29)), none⟩, []⟩]
    [0, 0, 0, 0, 0, 24, 63, 127, 255, 255, 511, 2047]) (.kill [10, 20, 21, 22, 23, 24, 25, 26, 27, 28, 29]))
  (.post (.reg [⟨(some 30), .op (.mv (.tmp 4)), none⟩,
    ⟨(some 31), .op (.mv (.tmp 1)), none⟩,
    ⟨(some 32), .op (.mv (.tmp 2)), none⟩,
    ⟨(some 33), .call (.tmp 30) [(.tmp 31), (.tmp 32)], none⟩]) (.kill [30, 31, 32, 33])))))
  (.post (.reg [⟨(some 34), .op (.bin .add (.tmp 17) (.const (Value.int .i64 1))), none⟩,
    ⟨(some 17), .op (.mv (.tmp 34)), none⟩]) (.kill [34])))))
def lo_impl_Checker_run_0 : AC := (.loop lb_impl_Checker_run_0)
def ac_impl_Checker_run : AC := (.seq (.post (.reg [⟨(some 5), .op (.box true (.tmp 0)), none⟩]) (.kill [0]))
  (.seq (.post (.reg [⟨(some 11), .op (.mv (.tmp 4)), none⟩,
    ⟨(some 12), .op (.mv (.tmp 1)), none⟩,
    ⟨(some 13), .op (.mv (.tmp 2)), none⟩,
    ⟨(some 14), .call (.tmp 11) [(.tmp 12), (.tmp 13)], none⟩]) (.kill [11, 12, 13, 14]))
  (.seq (.post (.reg [⟨(some 15), .op (.mv (.tmp 3)), none⟩,
    ⟨(some 16), .op (.len true (.tmp 15)), none⟩,
    ⟨(some 17), .op (.mv (.const (Value.int .i64 0))), none⟩]) (.kill [15]))
  (.block 0 lo_impl_Checker_run_0))))
theorem cf_impl_Checker_run : chkFn Try.prog i_impl_Checker_run ac_impl_Checker_run [] 35 = true := by decide +kernel
def fa_impl_Checker_run : FnA := ⟨ac_impl_Checker_run, [], 35, false, true⟩

/-- The checked code of impl RunOf 1. -/
def ac_impl_RunOf_1 : AC := (.post (.reg [⟨(some 6), .op (.load 1 false (.tmp 2)), none⟩,
    ⟨(some 7), .op (.mv (.tmp 0)), none⟩,
    ⟨(some 8), .op (.lits true 1 1 (Value.int .i64 0) [(0, (.tmp 7))]), none⟩,
    ⟨(some 9), .op (.append (.tmp 6) (.tmp 8) 1 8), none⟩,
    ⟨(some 10), .op (.mv (.tmp 1)), none⟩,
    ⟨none, .op (.store 1 (.tmp 2) (.tmp 9)), none⟩,
    ⟨none, .op (.store 1 (.tmp 3) (.tmp 10)), none⟩]) (.kill [0, 1, 2, 3, 6, 7, 8, 9, 10]))
theorem cf_impl_RunOf_1 : chkFn Try.prog i_impl_RunOf_1 ac_impl_RunOf_1 [] 11 = true := by decide +kernel
def fa_impl_RunOf_1 : FnA := ⟨ac_impl_RunOf_1, [], 11, false, true⟩

/-- The checked code of impl RunOf. -/
def ac_impl_RunOf : AC := (.seq (.post (.reg [⟨(some 2), .op (.box true (.tmp 0)), none⟩,
    ⟨(some 4), .op (.mv (.const (Value.slice none 0 0))), none⟩,
    ⟨(some 5), .op (.mv (.const (Value.slice none 0 0))), none⟩,
    ⟨(some 6), .op (.mv (.const (Value.int .i64 0))), none⟩]) (.kill [0, 4, 5, 6]))
  (.seq (.seq (.post (.reg [⟨(some 9), .op (.load 6 true (.tmp 2)), none⟩,
    ⟨(some 10), .call (.func i_impl_ValidChecker) [(.tmp 9)], none⟩,
    ⟨(some 11), .op (.un .not (.tmp 10)), none⟩,
    ⟨(some 12), .op (.mv (.tmp 11)), none⟩,
    ⟨(some 13), .op (.mv (.tmp 1)), some (12, false)⟩,
    ⟨(some 14), .call (.func i_impl_ValidWord) [(.tmp 13)], some (12, false)⟩,
    ⟨(some 15), .op (.un .not (.tmp 14)), some (12, false)⟩,
    ⟨(some 16), .op (.pick (.tmp 12) (.const (Value.bool true)) (.tmp 15)), none⟩]) (.kill [9, 10, 11, 12, 13, 14, 15]))
  (.cond (.tmp 16) (.ghost (.kill [1, 2, 16]) (.seq (.reg [⟨(some 4), .op (.mv (.const (Value.slice none 0 0))), none⟩,
    ⟨(some 5), .op (.mv (.const (Value.slice none 0 0))), none⟩,
    ⟨(some 6), .op (.mv (.const (Value.int .i64 1))), none⟩])
  .ret))
  (.ghost (.kill [16]) .skip)))
  (.seq (.post (.reg [⟨(some 17), .op (.lits true 1 0 (Value.int .i64 0) []), none⟩,
    ⟨(some 18), .op (.lits true 1 0 (Value.int .i64 0) []), none⟩,
    ⟨(some 7), .op (.alloc (Value.slice none 0 0)), none⟩,
    ⟨(some 8), .op (.alloc (Value.slice none 0 0)), none⟩,
    ⟨none, .op (.store 1 (.tmp 7) (.tmp 17)), none⟩,
    ⟨none, .op (.store 1 (.tmp 8) (.tmp 18)), none⟩]) (.kill [17, 18]))
  (.seq (.post (.reg [⟨(some 19), .op (.load 6 true (.tmp 2)), none⟩,
    ⟨(some 20), .op (.faddr (.tmp 2) 1), none⟩,
    ⟨(some 21), .op (.load 1 false (.tmp 20)), none⟩,
    ⟨(some 22), .op (.mv (.tmp 1)), none⟩,
    ⟨(some 23), .op (.mkfn i_impl_RunOf_1 [(.tmp 7), (.tmp 8)]), none⟩,
    ⟨(some 24), .call (.func i_impl_Checker_run) [(.tmp 19), (.tmp 21), (.const (Value.slice none 0 0)), (.tmp 22), (.tmp 23)], none⟩]) (.kill [1, 2, 19, 20, 21, 22, 23, 24]))
  (.seq (.post (.draw [⟨0, ⟨(some 25), .op (.load 1 false (.tmp 7)), none⟩, []⟩,
    ⟨1, ⟨(some 26), .op (.load 1 false (.tmp 8)), none⟩, []⟩,
    ⟨2, ⟨(some 27), .call (.func i_slices_Clone_L_int64) [(.tmp 26)], none⟩, [0]⟩,
    ⟨3, ⟨(some 4), .op (.mv (.tmp 25)), none⟩, []⟩,
    ⟨4, ⟨(some 5), .op (.mv (.tmp 27)), none⟩, []⟩,
    ⟨5, ⟨(some 6), .op (.mv (.const (Value.int .i64 0))), none⟩, []⟩]
    [0, 0, 2, 7, 15, 31]) (.kill [7, 8, 25, 26, 27]))
  .ret)))))
theorem cf_impl_RunOf : chkFn Try.prog i_impl_RunOf ac_impl_RunOf [.tmp 4, .tmp 5, .tmp 6] 28 = true := by decide +kernel
def fa_impl_RunOf : FnA := ⟨ac_impl_RunOf, [.tmp 4, .tmp 5, .tmp 6], 28, false, true⟩

/-- The checked code of impl StacksOf 1. -/
def ac_impl_StacksOf_1 : AC := (.ghost (.kill [0]) (.post (.draw [⟨0, ⟨(some 5), .op (.load 1 false (.tmp 2)), none⟩, []⟩,
    ⟨1, ⟨(some 6), .op (.mv (.tmp 1)), none⟩, []⟩,
    ⟨2, ⟨(some 7), .call (.func i_slices_Clone_L_int64) [(.tmp 6)], none⟩, [0]⟩,
    ⟨3, ⟨(some 8), .op (.lits true 1 1 (Value.slice none 0 0) [(0, (.tmp 7))]), none⟩, []⟩,
    ⟨4, ⟨(some 9), .op (.append (.tmp 5) (.tmp 8) 1 24), none⟩, []⟩,
    ⟨5, ⟨none, .op (.store 1 (.tmp 2) (.tmp 9)), none⟩, []⟩]
    [0, 0, 2, 6, 15, 31]) (.kill [1, 2, 5, 6, 7, 8, 9])))
theorem cf_impl_StacksOf_1 : chkFn Try.prog i_impl_StacksOf_1 ac_impl_StacksOf_1 [] 10 = true := by decide +kernel
def fa_impl_StacksOf_1 : FnA := ⟨ac_impl_StacksOf_1, [], 10, false, true⟩

/-- The checked code of impl StacksOf. -/
def ac_impl_StacksOf : AC := (.seq (.post (.reg [⟨(some 2), .op (.box true (.tmp 0)), none⟩,
    ⟨(some 4), .op (.mv (.const (Value.slice none 0 0))), none⟩,
    ⟨(some 5), .op (.mv (.const (Value.int .i64 0))), none⟩]) (.kill [0, 4, 5]))
  (.seq (.seq (.post (.reg [⟨(some 7), .op (.load 6 true (.tmp 2)), none⟩,
    ⟨(some 8), .call (.func i_impl_ValidChecker) [(.tmp 7)], none⟩,
    ⟨(some 9), .op (.un .not (.tmp 8)), none⟩,
    ⟨(some 10), .op (.mv (.tmp 9)), none⟩,
    ⟨(some 11), .op (.mv (.tmp 1)), some (10, false)⟩,
    ⟨(some 12), .call (.func i_impl_ValidWord) [(.tmp 11)], some (10, false)⟩,
    ⟨(some 13), .op (.un .not (.tmp 12)), some (10, false)⟩,
    ⟨(some 14), .op (.pick (.tmp 10) (.const (Value.bool true)) (.tmp 13)), none⟩]) (.kill [7, 8, 9, 10, 11, 12, 13]))
  (.cond (.tmp 14) (.ghost (.kill [1, 2, 14]) (.seq (.reg [⟨(some 4), .op (.mv (.const (Value.slice none 0 0))), none⟩,
    ⟨(some 5), .op (.mv (.const (Value.int .i64 1))), none⟩])
  .ret))
  (.ghost (.kill [14]) .skip)))
  (.seq (.post (.reg [⟨(some 15), .op (.lits true 1 0 (Value.slice none 0 0) []), none⟩,
    ⟨(some 6), .op (.alloc (Value.slice none 0 0)), none⟩,
    ⟨none, .op (.store 1 (.tmp 6) (.tmp 15)), none⟩]) (.kill [15]))
  (.seq (.post (.reg [⟨(some 16), .op (.load 6 true (.tmp 2)), none⟩,
    ⟨(some 17), .op (.faddr (.tmp 2) 1), none⟩,
    ⟨(some 18), .op (.load 1 false (.tmp 17)), none⟩,
    ⟨(some 19), .op (.mv (.tmp 1)), none⟩,
    ⟨(some 20), .op (.mkfn i_impl_StacksOf_1 [(.tmp 6)]), none⟩,
    ⟨(some 21), .call (.func i_impl_Checker_run) [(.tmp 16), (.tmp 18), (.const (Value.slice none 0 0)), (.tmp 19), (.tmp 20)], none⟩]) (.kill [1, 2, 16, 17, 18, 19, 20, 21]))
  (.seq (.post (.reg [⟨(some 22), .op (.load 1 false (.tmp 6)), none⟩,
    ⟨(some 4), .op (.mv (.tmp 22)), none⟩,
    ⟨(some 5), .op (.mv (.const (Value.int .i64 0))), none⟩]) (.kill [6, 22]))
  .ret)))))
theorem cf_impl_StacksOf : chkFn Try.prog i_impl_StacksOf ac_impl_StacksOf [.tmp 4, .tmp 5] 23 = true := by decide +kernel
def fa_impl_StacksOf : FnA := ⟨ac_impl_StacksOf, [.tmp 4, .tmp 5], 23, false, true⟩

/-- The checked code of spec l01Depths. -/
def lb_spec_l01Depths_0 : AC := (.post (.seq (.seq (.post (.reg [⟨(some 7), .op (.mv (.tmp 5)), none⟩,
    ⟨(some 8), .op (.mv (.tmp 0)), none⟩,
    ⟨(some 9), .op (.len true (.tmp 8)), none⟩,
    ⟨(some 10), .op (.bin .lss (.tmp 7) (.tmp 9)), none⟩]) (.kill [7, 8, 9]))
  (.cond (.tmp 10) (.ghost (.kill [10]) .skip)
  (.ghost (.kill [0, 4, 5, 10]) (.exit 0))))
  (.seq (.block 1 (.seq (.seq (.post (.reg [⟨(some 13), .op (.mv (.tmp 0)), none⟩,
    ⟨(some 14), .op (.mv (.tmp 5)), none⟩,
    ⟨(some 15), .op (.idxStr (.tmp 13) (.tmp 14)), none⟩,
    ⟨(some 16), .call (.func i_spec_l01Call) [(.tmp 15)], none⟩]) (.kill [13, 14, 15]))
  (.cond (.tmp 16) (.ghost (.kill [16]) (.post (.reg [⟨(some 17), .op (.mv (.tmp 4)), none⟩,
    ⟨(some 18), .op (.bin .add (.tmp 17) (.const (Value.int .i64 1))), none⟩,
    ⟨(some 4), .op (.mv (.tmp 18)), none⟩]) (.kill [17, 18])))
  (.ghost (.kill [16]) .skip)))
  (.seq (.seq (.post (.reg [⟨(some 19), .op (.mv (.tmp 0)), none⟩,
    ⟨(some 20), .op (.mv (.tmp 5)), none⟩,
    ⟨(some 21), .op (.idxStr (.tmp 19) (.tmp 20)), none⟩,
    ⟨(some 22), .call (.func i_spec_l01Return) [(.tmp 21)], none⟩,
    ⟨(some 23), .op (.mv (.tmp 22)), none⟩,
    ⟨(some 24), .op (.mv (.tmp 4)), some (23, true)⟩,
    ⟨(some 25), .op (.bin .gtr (.tmp 24) (.const (Value.int .i64 0))), some (23, true)⟩,
    ⟨(some 26), .op (.pick (.tmp 23) (.tmp 25) (.const (Value.bool false))), none⟩]) (.kill [19, 20, 21, 22, 23, 24, 25]))
  (.cond (.tmp 26) (.ghost (.kill [26]) (.post (.reg [⟨(some 27), .op (.mv (.tmp 4)), none⟩,
    ⟨(some 28), .op (.bin .sub (.tmp 27) (.const (Value.int .i64 1))), none⟩,
    ⟨(some 4), .op (.mv (.tmp 28)), none⟩]) (.kill [27, 28])))
  (.ghost (.kill [26]) .skip)))
  (.post (.reg [⟨(some 29), .op (.mv (.tmp 3)), none⟩,
    ⟨(some 30), .op (.mv (.tmp 4)), none⟩,
    ⟨(some 31), .op (.lits true 1 1 (Value.int .i64 0) [(0, (.tmp 30))]), none⟩,
    ⟨(some 32), .op (.append (.tmp 29) (.tmp 31) 1 8), none⟩,
    ⟨(some 3), .op (.mv (.tmp 32)), none⟩]) (.kill [29, 30, 31, 32])))))
  (.post (.reg [⟨(some 11), .op (.mv (.tmp 5)), none⟩,
    ⟨(some 12), .op (.bin .add (.tmp 11) (.const (Value.int .i64 1))), none⟩,
    ⟨(some 5), .op (.mv (.tmp 12)), none⟩]) (.kill [11, 12])))) .nv)
def lo_spec_l01Depths_0 : AC := (.loop lb_spec_l01Depths_0)
def ac_spec_l01Depths : AC := (.seq (.post (.reg [⟨(some 2), .op (.mv (.const (Value.slice none 0 0))), none⟩]) (.kill [2]))
  (.seq (.post (.reg [⟨(some 6), .op (.lits false 1 1 (Value.int .i64 0) [(0, (.const (Value.int .i64 0)))]), none⟩,
    ⟨(some 3), .op (.mv (.tmp 6)), none⟩]) (.kill [6]))
  (.seq (.reg [⟨(some 4), .op (.mv (.const (Value.int .i64 0))), none⟩])
  (.seq (.seq (.reg [⟨(some 5), .op (.mv (.const (Value.int .i64 0))), none⟩])
  (.post (.block 0 (.ghost .nv lo_spec_l01Depths_0)) .nv))
  (.ghost (.kill [0, 4, 5]) (.seq (.post (.reg [⟨(some 33), .op (.mv (.tmp 3)), none⟩,
    ⟨(some 2), .op (.mv (.tmp 33)), none⟩]) (.kill [3, 33]))
  .ret))))))
theorem cf_spec_l01Depths : chkFn Try.prog i_spec_l01Depths ac_spec_l01Depths [.tmp 2] 34 = true := by decide +kernel
def fa_spec_l01Depths : FnA := ⟨ac_spec_l01Depths, [.tmp 2], 34, false, true⟩

/-- The checked code of spec DepthsOf. -/
def ac_spec_DepthsOf : AC := (.seq (.post (.reg [⟨(some 2), .op (.mv (.const (Value.slice none 0 0))), none⟩,
    ⟨(some 3), .op (.mv (.const (Value.int .i64 0))), none⟩]) (.kill [2, 3]))
  (.seq (.seq (.post (.reg [⟨(some 4), .op (.mv (.tmp 0)), none⟩,
    ⟨(some 5), .call (.func i_spec_l01Ok) [(.tmp 4)], none⟩,
    ⟨(some 6), .op (.un .not (.tmp 5)), none⟩]) (.kill [4, 5]))
  (.cond (.tmp 6) (.ghost (.kill [0, 6]) (.seq (.post (.reg [⟨(some 7), .op (.lits true 1 0 (Value.int .i64 0) []), none⟩,
    ⟨(some 2), .op (.mv (.tmp 7)), none⟩,
    ⟨(some 3), .op (.mv (.const (Value.int .i64 1))), none⟩]) (.kill [7]))
  .ret))
  (.ghost (.kill [6]) .skip)))
  (.seq (.post (.reg [⟨(some 8), .op (.mv (.tmp 0)), none⟩,
    ⟨(some 9), .call (.func i_spec_l01Depths) [(.tmp 8)], none⟩,
    ⟨(some 2), .op (.mv (.tmp 9)), none⟩,
    ⟨(some 3), .op (.mv (.const (Value.int .i64 0))), none⟩]) (.kill [0, 8, 9]))
  .ret)))
theorem cf_spec_DepthsOf : chkFn Try.prog i_spec_DepthsOf ac_spec_DepthsOf [.tmp 2, .tmp 3] 10 = true := by decide +kernel
def fa_spec_DepthsOf : FnA := ⟨ac_spec_DepthsOf, [.tmp 2, .tmp 3], 10, false, true⟩

/-- The checked code of impl Checker  end 1. -/
def ac_impl_Checker_end_1 : AC := (.post (.reg [⟨(some 6), .op (.mv (.tmp 0)), none⟩,
    ⟨(some 7), .op (.mv (.tmp 1)), none⟩,
    ⟨none, .op (.store 1 (.tmp 2) (.tmp 6)), none⟩,
    ⟨none, .op (.store 1 (.tmp 3) (.tmp 7)), none⟩]) (.kill [0, 1, 2, 3, 6, 7]))
theorem cf_impl_Checker_end_1 : chkFn Try.prog i_impl_Checker_end_1 ac_impl_Checker_end_1 [] 8 = true := by decide +kernel
def fa_impl_Checker_end_1 : FnA := ⟨ac_impl_Checker_end_1, [], 8, false, true⟩

/-- The checked code of impl Checker  end. -/
def ac_impl_Checker_end : AC := (.seq (.post (.reg [⟨(some 4), .op (.box true (.tmp 0)), none⟩,
    ⟨(some 5), .op (.box true (.tmp 1)), none⟩,
    ⟨(some 6), .op (.box true (.tmp 2)), none⟩,
    ⟨(some 8), .op (.mv (.const (Value.int .i64 0))), none⟩,
    ⟨(some 9), .op (.mv (.const (Value.slice none 0 0))), none⟩]) (.kill [0, 1, 2, 8, 9]))
  (.seq (.post (.reg [⟨(some 10), .op (.load 6 true (.tmp 4)), none⟩,
    ⟨(some 11), .op (.load 1 false (.tmp 5)), none⟩,
    ⟨(some 12), .op (.load 1 false (.tmp 6)), none⟩,
    ⟨(some 13), .op (.mv (.tmp 3)), none⟩,
    ⟨(some 14), .op (.mkfn i_impl_Checker_end_1 [(.tmp 5), (.tmp 6)]), none⟩,
    ⟨(some 15), .call (.func i_impl_Checker_run) [(.tmp 10), (.tmp 11), (.tmp 12), (.tmp 13), (.tmp 14)], none⟩]) (.kill [3, 4, 10, 11, 12, 13, 14, 15]))
  (.seq (.post (.draw [⟨0, ⟨(some 16), .op (.load 1 false (.tmp 5)), none⟩, []⟩,
    ⟨1, ⟨(some 17), .op (.load 1 false (.tmp 6)), none⟩, []⟩,
    ⟨2, ⟨(some 8), .op (.mv (.tmp 16)), none⟩, []⟩,
    ⟨3, ⟨(some 9), .op (.mv (.tmp 17)), none⟩, []⟩]
    [0, 0, 1, 7]) (.kill [5, 6, 16, 17]))
  .ret)))
theorem cf_impl_Checker_end : chkFn Try.prog i_impl_Checker_end ac_impl_Checker_end [.tmp 8, .tmp 9] 18 = true := by decide +kernel
def fa_impl_Checker_end : FnA := ⟨ac_impl_Checker_end, [.tmp 8, .tmp 9], 18, false, true⟩

/-- The checked code of impl Checker  takes. -/
def ac_impl_Checker_takes : AC := (.seq (.post (.reg [⟨(some 2), .op (.box true (.tmp 0)), none⟩,
    ⟨(some 4), .op (.mv (.const (Value.bool false))), none⟩]) (.kill [0, 4]))
  (.seq (.post (.reg [⟨(some 8), .op (.load 6 true (.tmp 2)), none⟩,
    ⟨(some 9), .op (.faddr (.tmp 2) 1), none⟩,
    ⟨(some 10), .op (.load 1 false (.tmp 9)), none⟩,
    ⟨(some 11), .op (.mv (.tmp 1)), none⟩,
    ⟨(some 12), .call (.func i_impl_Checker_end) [(.tmp 8), (.tmp 10), (.const (Value.slice none 0 0)), (.tmp 11)], none⟩,
    ⟨(some 7), .op (.mv (.tmp 12)), none⟩,
    ⟨(some 13), .op (.ext (.tmp 7) 0), none⟩,
    ⟨(some 14), .op (.ext (.tmp 7) 1), none⟩,
    ⟨(some 5), .op (.mv (.tmp 13)), none⟩,
    ⟨(some 6), .op (.mv (.tmp 14)), none⟩]) (.kill [1, 6, 7, 8, 9, 10, 11, 12, 13, 14]))
  (.seq (.post (.reg [⟨(some 15), .op (.faddr (.tmp 2) 2), none⟩,
    ⟨(some 16), .op (.load 1 false (.tmp 15)), none⟩,
    ⟨(some 17), .op (.mv (.tmp 5)), none⟩,
    ⟨(some 18), .op (.iaddrS (.tmp 16) (.tmp 17) 1), none⟩,
    ⟨(some 19), .op (.load 1 false (.tmp 18)), none⟩,
    ⟨(some 4), .op (.mv (.tmp 19)), none⟩]) (.kill [2, 5, 15, 16, 17, 18, 19]))
  .ret)))
theorem cf_impl_Checker_takes : chkFn Try.prog i_impl_Checker_takes ac_impl_Checker_takes [.tmp 4] 20 = true := by decide +kernel
def fa_impl_Checker_takes : FnA := ⟨ac_impl_Checker_takes, [.tmp 4], 20, false, true⟩

/-- The checked code of impl Takes. -/
def ac_impl_Takes : AC := (.seq (.post (.reg [⟨(some 2), .op (.box true (.tmp 0)), none⟩,
    ⟨(some 4), .op (.mv (.const (Value.bool false))), none⟩,
    ⟨(some 5), .op (.mv (.const (Value.int .i64 0))), none⟩]) (.kill [0, 4, 5]))
  (.seq (.seq (.post (.reg [⟨(some 6), .op (.load 6 true (.tmp 2)), none⟩,
    ⟨(some 7), .call (.func i_impl_ValidChecker) [(.tmp 6)], none⟩,
    ⟨(some 8), .op (.un .not (.tmp 7)), none⟩,
    ⟨(some 9), .op (.mv (.tmp 8)), none⟩,
    ⟨(some 10), .op (.mv (.tmp 1)), some (9, false)⟩,
    ⟨(some 11), .call (.func i_impl_ValidWord) [(.tmp 10)], some (9, false)⟩,
    ⟨(some 12), .op (.un .not (.tmp 11)), some (9, false)⟩,
    ⟨(some 13), .op (.pick (.tmp 9) (.const (Value.bool true)) (.tmp 12)), none⟩]) (.kill [6, 7, 8, 9, 10, 11, 12]))
  (.cond (.tmp 13) (.ghost (.kill [1, 2, 13]) (.seq (.reg [⟨(some 4), .op (.mv (.const (Value.bool false))), none⟩,
    ⟨(some 5), .op (.mv (.const (Value.int .i64 1))), none⟩])
  .ret))
  (.ghost (.kill [13]) .skip)))
  (.seq (.post (.reg [⟨(some 14), .op (.load 6 true (.tmp 2)), none⟩,
    ⟨(some 15), .op (.mv (.tmp 1)), none⟩,
    ⟨(some 16), .call (.func i_impl_Checker_takes) [(.tmp 14), (.tmp 15)], none⟩,
    ⟨(some 4), .op (.mv (.tmp 16)), none⟩,
    ⟨(some 5), .op (.mv (.const (Value.int .i64 0))), none⟩]) (.kill [1, 2, 14, 15, 16]))
  .ret)))
theorem cf_impl_Takes : chkFn Try.prog i_impl_Takes ac_impl_Takes [.tmp 4, .tmp 5] 17 = true := by decide +kernel
def fa_impl_Takes : FnA := ⟨ac_impl_Takes, [.tmp 4, .tmp 5], 17, false, true⟩

/-- The checked code of spec l00Same. -/
def lb_spec_l00Same_0 : AC := (.seq (.seq (.post (.reg [⟨(some 11), .op (.mv (.tmp 5)), none⟩,
    ⟨(some 12), .op (.mv (.tmp 0)), none⟩,
    ⟨(some 13), .op (.len false (.tmp 12)), none⟩,
    ⟨(some 14), .op (.bin .lss (.tmp 11) (.tmp 13)), none⟩]) (.kill [11, 12, 13]))
  (.cond (.tmp 14) (.ghost (.kill [14]) .skip)
  (.ghost (.kill [0, 1, 5, 14]) (.exit 0))))
  (.seq (.block 1 (.seq (.post (.draw [⟨0, ⟨(some 17), .op (.mv (.tmp 0)), none⟩, []⟩,
    ⟨1, ⟨(some 18), .op (.mv (.tmp 5)), none⟩, []⟩,
    ⟨2, ⟨(some 19), .op (.iaddrS (.tmp 17) (.tmp 18) 1), none⟩, []⟩,
    ⟨3, ⟨(some 20), .op (.load 1 false (.tmp 19)), none⟩, []⟩,
    ⟨4, ⟨(some 21), .op (.mv (.tmp 1)), none⟩, []⟩,
    ⟨5, ⟨(some 22), .op (.mv (.tmp 5)), none⟩, []⟩,
    ⟨6, ⟨(some 23), .op (.iaddrS (.tmp 21) (.tmp 22) 1), none⟩, []⟩,
    ⟨7, ⟨(some 24), .op (.load 1 false (.tmp 23)), none⟩, []⟩,
    ⟨8, ⟨(some 25), .op (.bin .neq (.tmp 20) (.tmp 24)), none⟩, []⟩]
    [0, 0, 3, 7, 0, 0, 48, 112, 255]) (.kill [17, 18, 19, 20, 21, 22, 23, 24]))
  (.cond (.tmp 25) (.ghost (.kill [0, 1, 5, 25]) (.seq (.reg [⟨(some 4), .op (.mv (.const (Value.bool false))), none⟩])
  .ret))
  (.ghost (.kill [25]) .skip))))
  (.post (.reg [⟨(some 15), .op (.mv (.tmp 5)), none⟩,
    ⟨(some 16), .op (.bin .add (.tmp 15) (.const (Value.int .i64 1))), none⟩,
    ⟨(some 5), .op (.mv (.tmp 16)), none⟩]) (.kill [15, 16]))))
def lo_spec_l00Same_0 : AC := (.loop lb_spec_l00Same_0)
def ac_spec_l00Same : AC := (.seq (.post (.reg [⟨(some 4), .op (.mv (.const (Value.bool false))), none⟩]) (.kill [4]))
  (.seq (.seq (.post (.reg [⟨(some 6), .op (.mv (.tmp 0)), none⟩,
    ⟨(some 7), .op (.len false (.tmp 6)), none⟩,
    ⟨(some 8), .op (.mv (.tmp 1)), none⟩,
    ⟨(some 9), .op (.len false (.tmp 8)), none⟩,
    ⟨(some 10), .op (.bin .neq (.tmp 7) (.tmp 9)), none⟩]) (.kill [6, 7, 8, 9]))
  (.cond (.tmp 10) (.ghost (.kill [0, 1, 10]) (.seq (.reg [⟨(some 4), .op (.mv (.const (Value.bool false))), none⟩])
  .ret))
  (.ghost (.kill [10]) .skip)))
  (.seq (.seq (.reg [⟨(some 5), .op (.mv (.const (Value.int .i64 0))), none⟩])
  (.block 0 lo_spec_l00Same_0))
  (.ghost (.kill [0, 1, 5]) (.seq (.reg [⟨(some 4), .op (.mv (.const (Value.bool true))), none⟩])
  .ret)))))
theorem cf_spec_l00Same : chkFn Try.prog i_spec_l00Same ac_spec_l00Same [.tmp 4] 26 = true := by decide +kernel
def fa_spec_l00Same : FnA := ⟨ac_spec_l00Same, [.tmp 4], 26, false, true⟩

/-- The checked code of spec SameList. -/
def ac_spec_SameList : AC := (.seq (.post (.reg [⟨(some 4), .op (.mv (.const (Value.bool false))), none⟩]) (.kill [4]))
  (.seq (.post (.reg [⟨(some 5), .op (.mv (.tmp 0)), none⟩,
    ⟨(some 6), .op (.mv (.tmp 1)), none⟩,
    ⟨(some 7), .call (.func i_spec_l00Same) [(.tmp 5), (.tmp 6)], none⟩,
    ⟨(some 4), .op (.mv (.tmp 7)), none⟩]) (.kill [0, 1, 5, 6, 7]))
  .ret))
theorem cf_spec_SameList : chkFn Try.prog i_spec_SameList ac_spec_SameList [.tmp 4] 8 = true := by decide +kernel
def fa_spec_SameList : FnA := ⟨ac_spec_SameList, [.tmp 4], 8, false, true⟩

/-- The checked code of laws a2At. -/
def ac_laws_a2At : AC := (.seq (.post (.reg [⟨(some 6), .op (.mv (.const (Value.int .i64 0))), none⟩]) (.kill [6]))
  (.seq (.seq (.post (.reg [⟨(some 7), .op (.mv (.tmp 1)), none⟩,
    ⟨(some 8), .op (.mv (.tmp 0)), none⟩,
    ⟨(some 9), .op (.len false (.tmp 8)), none⟩,
    ⟨(some 10), .op (.bin .geq (.tmp 7) (.tmp 9)), none⟩,
    ⟨(some 11), .op (.mv (.tmp 10)), none⟩,
    ⟨(some 12), .op (.mv (.tmp 2)), some (11, false)⟩,
    ⟨(some 13), .op (.bin .lss (.tmp 12) (.const (Value.int .i64 1))), some (11, false)⟩,
    ⟨(some 14), .op (.pick (.tmp 11) (.const (Value.bool true)) (.tmp 13)), none⟩]) (.kill [7, 8, 9, 10, 11, 12, 13]))
  (.cond (.tmp 14) (.ghost (.kill [0, 1, 2, 14]) (.seq (.reg [⟨(some 6), .op (.mv (.const (Value.int .i64 0))), none⟩])
  .ret))
  (.ghost (.kill [14]) .skip)))
  (.seq (.post (.reg [⟨(some 15), .op (.mv (.tmp 0)), none⟩,
    ⟨(some 16), .op (.mv (.tmp 1)), none⟩,
    ⟨(some 17), .op (.iaddrS (.tmp 15) (.tmp 16) 1), none⟩,
    ⟨(some 18), .op (.load 1 false (.tmp 17)), none⟩,
    ⟨(some 19), .op (.conv .i64 (.tmp 18)), none⟩,
    ⟨(some 20), .op (.mv (.tmp 2)), none⟩,
    ⟨(some 21), .op (.bin .rem (.tmp 19) (.tmp 20)), none⟩,
    ⟨(some 6), .op (.mv (.tmp 21)), none⟩]) (.kill [0, 1, 2, 15, 16, 17, 18, 19, 20, 21]))
  .ret)))
theorem cf_laws_a2At : chkFn Try.prog i_laws_a2At ac_laws_a2At [.tmp 6] 22 = true := by decide +kernel
def fa_laws_a2At : FnA := ⟨ac_laws_a2At, [.tmp 6], 22, false, true⟩

/-- The checked code of impl GoOn 1. -/
def ac_impl_GoOn_1 : AC := (.seq (.post (.reg [⟨(some 3), .op (.mv (.const (Value.bool false))), none⟩]) (.kill [3]))
  (.seq (.post (.reg [⟨(some 4), .op (.load 6 true (.tmp 1)), none⟩,
    ⟨(some 5), .op (.mv (.tmp 0)), none⟩,
    ⟨(some 6), .call (.func i_impl_Checker_isMark) [(.tmp 4), (.tmp 5)], none⟩,
    ⟨(some 7), .op (.un .not (.tmp 6)), none⟩,
    ⟨(some 3), .op (.mv (.tmp 7)), none⟩]) (.kill [0, 1, 4, 5, 6, 7]))
  .ret))
theorem cf_impl_GoOn_1 : chkFn Try.prog i_impl_GoOn_1 ac_impl_GoOn_1 [.tmp 3] 8 = true := by decide +kernel
def fa_impl_GoOn_1 : FnA := ⟨ac_impl_GoOn_1, [.tmp 3], 8, false, true⟩

/-- The checked code of impl GoOn. -/
def ac_impl_GoOn : AC := (.seq (.post (.reg [⟨(some 4), .op (.box true (.tmp 0)), none⟩,
    ⟨(some 8), .op (.mv (.const (Value.int .i64 0))), none⟩,
    ⟨(some 9), .op (.mv (.const (Value.slice none 0 0))), none⟩,
    ⟨(some 10), .op (.mv (.const (Value.int .i64 0))), none⟩]) (.kill [0, 8, 9, 10]))
  (.seq (.block 0 (.seq (.post (.reg [⟨(some 14), .op (.load 6 true (.tmp 4)), none⟩,
    ⟨(some 15), .call (.func i_impl_ValidChecker) [(.tmp 14)], none⟩,
    ⟨(some 16), .op (.un .not (.tmp 15)), none⟩,
    ⟨(some 17), .op (.mv (.tmp 16)), none⟩,
    ⟨(some 18), .op (.mv (.tmp 3)), some (17, false)⟩,
    ⟨(some 19), .call (.func i_impl_ValidWord) [(.tmp 18)], some (17, false)⟩,
    ⟨(some 20), .op (.un .not (.tmp 19)), some (17, false)⟩,
    ⟨(some 21), .op (.pick (.tmp 17) (.const (Value.bool true)) (.tmp 20)), none⟩,
    ⟨(some 13), .op (.mv (.tmp 21)), none⟩]) (.kill [14, 15, 16, 17, 18, 19, 20, 21]))
  (.cond (.tmp 13) (.ghost (.kill [1, 2, 3, 4, 13]) (.seq (.reg [⟨(some 8), .op (.mv (.const (Value.int .i64 0))), none⟩,
    ⟨(some 9), .op (.mv (.const (Value.slice none 0 0))), none⟩,
    ⟨(some 10), .op (.mv (.const (Value.int .i64 1))), none⟩])
  .ret))
  (.ghost (.kill [13]) (.seq (.post (.reg [⟨(some 23), .op (.load 6 true (.tmp 4)), none⟩,
    ⟨(some 24), .op (.mv (.tmp 1)), none⟩,
    ⟨(some 25), .call (.func i_impl_Checker_isState) [(.tmp 23), (.tmp 24)], none⟩,
    ⟨(some 26), .op (.un .not (.tmp 25)), none⟩,
    ⟨(some 27), .op (.mv (.tmp 26)), none⟩,
    ⟨(some 28), .op (.mv (.tmp 2)), some (27, false)⟩,
    ⟨(some 29), .op (.len false (.tmp 28)), some (27, false)⟩,
    ⟨(some 30), .op (.bin .gtr (.tmp 29) (.const (Value.int .i64 60))), some (27, false)⟩,
    ⟨(some 31), .op (.pick (.tmp 27) (.const (Value.bool true)) (.tmp 30)), none⟩,
    ⟨(some 32), .op (.mv (.tmp 31)), none⟩,
    ⟨(some 33), .op (.mv (.tmp 2)), some (32, false)⟩,
    ⟨(some 34), .op (.mkfn i_impl_GoOn_1 [(.tmp 4)]), some (32, false)⟩,
    ⟨(some 35), .call (.func i_slices_ContainsFunc_L_int64) [(.tmp 33), (.tmp 34)], some (32, false)⟩,
    ⟨(some 36), .op (.pick (.tmp 32) (.const (Value.bool true)) (.tmp 35)), none⟩,
    ⟨(some 22), .op (.mv (.tmp 36)), none⟩]) (.kill [23, 24, 25, 26, 27, 28, 29, 30, 31, 32, 33, 34, 35, 36]))
  (.cond (.tmp 22) (.ghost (.kill [1, 2, 3, 4, 22]) (.seq (.reg [⟨(some 8), .op (.mv (.const (Value.int .i64 0))), none⟩,
    ⟨(some 9), .op (.mv (.const (Value.slice none 0 0))), none⟩,
    ⟨(some 10), .op (.mv (.const (Value.int .i64 2))), none⟩])
  .ret))
  (.ghost (.kill [22]) .skip)))))))
  (.seq (.post (.reg [⟨(some 38), .op (.load 6 true (.tmp 4)), none⟩,
    ⟨(some 39), .op (.mv (.tmp 1)), none⟩,
    ⟨(some 40), .op (.mv (.tmp 2)), none⟩,
    ⟨(some 41), .op (.mv (.tmp 3)), none⟩,
    ⟨(some 42), .call (.func i_impl_Checker_end) [(.tmp 38), (.tmp 39), (.tmp 40), (.tmp 41)], none⟩,
    ⟨(some 37), .op (.mv (.tmp 42)), none⟩,
    ⟨(some 43), .op (.ext (.tmp 37) 0), none⟩,
    ⟨(some 44), .op (.ext (.tmp 37) 1), none⟩,
    ⟨(some 11), .op (.mv (.tmp 43)), none⟩,
    ⟨(some 12), .op (.mv (.tmp 44)), none⟩]) (.kill [1, 2, 3, 4, 37, 38, 39, 40, 41, 42, 43, 44]))
  (.seq (.post (.reg [⟨(some 45), .op (.mv (.tmp 11)), none⟩,
    ⟨(some 46), .op (.mv (.tmp 12)), none⟩,
    ⟨(some 47), .call (.func i_slices_Clone_L_int64) [(.tmp 46)], none⟩,
    ⟨(some 8), .op (.mv (.tmp 45)), none⟩,
    ⟨(some 9), .op (.mv (.tmp 47)), none⟩,
    ⟨(some 10), .op (.mv (.const (Value.int .i64 0))), none⟩]) (.kill [11, 12, 45, 46, 47]))
  .ret))))
theorem cf_impl_GoOn : chkFn Try.prog i_impl_GoOn ac_impl_GoOn [.tmp 8, .tmp 9, .tmp 10] 48 = true := by decide +kernel
def fa_impl_GoOn : FnA := ⟨ac_impl_GoOn, [.tmp 8, .tmp 9, .tmp 10], 48, false, true⟩

/-- The checked code of spec l01Ways. -/
def lb_spec_l01Ways_0 : AC := (.post (.seq (.seq (.post (.reg [⟨(some 20), .op (.mv (.tmp 4)), none⟩,
    ⟨(some 21), .op (.bin .gtr (.tmp 20) (.const (Value.int .i64 0))), none⟩,
    ⟨(some 22), .op (.mv (.tmp 21)), none⟩,
    ⟨(some 23), .op (.mv (.tmp 6)), some (22, true)⟩,
    ⟨(some 24), .op (.mv (.tmp 0)), some (22, true)⟩,
    ⟨(some 25), .op (.bin .leq (.tmp 23) (.tmp 24)), some (22, true)⟩,
    ⟨(some 26), .op (.pick (.tmp 22) (.tmp 25) (.const (Value.bool false))), none⟩]) (.kill [20, 21, 22, 23, 24, 25]))
  (.cond (.tmp 26) (.ghost (.kill [26]) .skip)
  (.ghost (.kill [6, 26]) (.exit 2))))
  (.seq (.block 3 (.seq (.post (.draw [⟨0, ⟨(some 29), .op (.mv (.tmp 5)), none⟩, []⟩,
    ⟨1, ⟨(some 30), .op (.mv (.tmp 6)), none⟩, []⟩,
    ⟨2, ⟨(some 31), .op (.mv (.tmp 3)), none⟩, []⟩,
    ⟨3, ⟨(some 32), .op (.mv (.tmp 4)), none⟩, []⟩,
    ⟨4, ⟨(some 33), .op (.bin .sub (.tmp 32) (.const (Value.int .i64 1))), none⟩, []⟩,
    ⟨5, ⟨(some 34), .op (.iaddrS (.tmp 31) (.tmp 33) 1), none⟩, []⟩,
    ⟨6, ⟨(some 35), .op (.load 1 false (.tmp 34)), none⟩, []⟩,
    ⟨7, ⟨(some 36), .op (.mv (.tmp 6)), none⟩, []⟩,
    ⟨8, ⟨(some 37), .op (.iaddrS (.tmp 35) (.tmp 36) 1), none⟩, []⟩,
    ⟨9, ⟨(some 38), .op (.load 1 false (.tmp 37)), none⟩, []⟩,
    ⟨10, ⟨(some 39), .op (.bin .mul (.const (Value.int .i64 2)) (.tmp 38)), none⟩, []⟩,
    ⟨11, ⟨(some 40), .op (.mv (.tmp 3)), none⟩, []⟩,
    ⟨12, ⟨(some 41), .op (.mv (.tmp 4)), none⟩, []⟩,
    ⟨13, ⟨(some 42), .op (.bin .sub (.tmp 41) (.const (Value.int .i64 1))), none⟩, []⟩,
    ⟨14, ⟨(some 43), .op (.iaddrS (.tmp 40) (.tmp 42) 1), none⟩, []⟩,
    ⟨15, ⟨(some 44), .op (.load 1 false (.tmp 43)), none⟩, []⟩,
    ⟨16, ⟨(some 45), .op (.mv (.tmp 6)), none⟩, []⟩,
    ⟨17, ⟨(some 46), .op (.bin .add (.tmp 45) (.const (Value.int .i64 1))), none⟩, []⟩,
    ⟨18, ⟨(some 47), .op (.iaddrS (.tmp 44) (.tmp 46) 1), none⟩, []⟩,
    ⟨19, ⟨(some 48), .op (.load 1 false (.tmp 47)), none⟩, []⟩,
    ⟨20, ⟨(some 49), .op (.bin .mul (.const (Value.int .i64 2)) (.tmp 48)), none⟩, []⟩,
    ⟨21, ⟨(some 50), .op (.bin .add (.tmp 39) (.tmp 49)), none⟩, []⟩,
    ⟨22, ⟨(some 51), .op (.iaddrS (.tmp 29) (.tmp 30) 1), none⟩, []⟩,
    ⟨23, ⟨none, .op (.store 1 (.tmp 51) (.tmp 50)), none⟩, []⟩]
    [0, 0, 0, 0, 8, 28, 60, 0, 252, 508, 1020, 0, 0, 4096, 14336, 30720, 0, 65536, 260096, 522240, 1046528, 2097148, 4194303, 8388607]) (.kill [29, 30, 31, 32, 33, 34, 35, 36, 37, 38, 39, 40, 41, 42, 43, 44, 45, 46, 47, 48, 49, 50, 51]))
  (.seq (.post (.reg [⟨(some 52), .op (.mv (.tmp 6)), none⟩,
    ⟨(some 53), .op (.bin .gtr (.tmp 52) (.const (Value.int .i64 0))), none⟩]) (.kill [52]))
  (.cond (.tmp 53) (.ghost (.kill [53]) (.post (.draw [⟨0, ⟨(some 54), .op (.mv (.tmp 5)), none⟩, []⟩,
    ⟨1, ⟨(some 55), .op (.mv (.tmp 6)), none⟩, []⟩,
    ⟨2, ⟨(some 56), .op (.iaddrS (.tmp 54) (.tmp 55) 1), none⟩, []⟩,
    ⟨3, ⟨(some 57), .op (.load 1 false (.tmp 56)), none⟩, []⟩,
    ⟨4, ⟨(some 58), .op (.mv (.tmp 3)), none⟩, []⟩,
    ⟨5, ⟨(some 59), .op (.mv (.tmp 4)), none⟩, []⟩,
    ⟨6, ⟨(some 60), .op (.bin .sub (.tmp 59) (.const (Value.int .i64 1))), none⟩, []⟩,
    ⟨7, ⟨(some 61), .op (.iaddrS (.tmp 58) (.tmp 60) 1), none⟩, []⟩,
    ⟨8, ⟨(some 62), .op (.load 1 false (.tmp 61)), none⟩, []⟩,
    ⟨9, ⟨(some 63), .op (.mv (.tmp 6)), none⟩, []⟩,
    ⟨10, ⟨(some 64), .op (.bin .sub (.tmp 63) (.const (Value.int .i64 1))), none⟩, []⟩,
    ⟨11, ⟨(some 65), .op (.iaddrS (.tmp 62) (.tmp 64) 1), none⟩, []⟩,
    ⟨12, ⟨(some 66), .op (.load 1 false (.tmp 65)), none⟩, []⟩,
    ⟨13, ⟨(some 67), .op (.bin .mul (.const (Value.int .i64 2)) (.tmp 66)), none⟩, []⟩,
    ⟨14, ⟨(some 68), .op (.bin .add (.tmp 57) (.tmp 67)), none⟩, []⟩,
    ⟨15, ⟨(some 69), .op (.iaddrS (.tmp 54) (.tmp 55) 1), none⟩, []⟩,
    ⟨16, ⟨none, .op (.store 1 (.tmp 69) (.tmp 68)), none⟩, []⟩]
    [0, 0, 3, 7, 0, 0, 32, 112, 240, 0, 512, 2032, 4080, 8176, 16383, 32767, 65535]) (.kill [54, 55, 56, 57, 58, 59, 60, 61, 62, 63, 64, 65, 66, 67, 68, 69])))
  (.ghost (.kill [53]) .skip)))))
  (.post (.reg [⟨(some 27), .op (.mv (.tmp 6)), none⟩,
    ⟨(some 28), .op (.bin .add (.tmp 27) (.const (Value.int .i64 1))), none⟩,
    ⟨(some 6), .op (.mv (.tmp 28)), none⟩]) (.kill [27, 28])))) .nv)
def lo_spec_l01Ways_0 : AC := (.loop lb_spec_l01Ways_0)
def lb_spec_l01Ways_1 : AC := (.post (.seq (.seq (.post (.reg [⟨(some 8), .op (.mv (.tmp 4)), none⟩,
    ⟨(some 9), .op (.mv (.tmp 0)), none⟩,
    ⟨(some 10), .op (.bin .leq (.tmp 8) (.tmp 9)), none⟩]) (.kill [8, 9]))
  (.cond (.tmp 10) (.ghost (.kill [10]) .skip)
  (.ghost (.kill [0, 4, 10]) (.exit 0))))
  (.seq (.block 1 (.seq (.post (.reg [⟨(some 13), .op (.mv (.tmp 0)), none⟩,
    ⟨(some 14), .op (.bin .add (.tmp 13) (.const (Value.int .i64 2))), none⟩,
    ⟨(some 15), .op (.make (.tmp 14) (.tmp 14) 1 8 (Value.int .i64 0)), none⟩,
    ⟨(some 5), .op (.mv (.tmp 15)), none⟩]) (.kill [13, 14, 15]))
  (.seq (.seq (.post (.reg [⟨(some 16), .op (.mv (.tmp 4)), none⟩,
    ⟨(some 17), .op (.bin .eql (.tmp 16) (.const (Value.int .i64 0))), none⟩]) (.kill [16]))
  (.cond (.tmp 17) (.ghost (.kill [17]) (.post (.reg [⟨(some 18), .op (.mv (.tmp 5)), none⟩,
    ⟨(some 19), .op (.iaddrS (.tmp 18) (.const (Value.int .i64 0)) 1), none⟩,
    ⟨none, .op (.store 1 (.tmp 19) (.const (Value.int .i64 1))), none⟩]) (.kill [18, 19])))
  (.ghost (.kill [17]) .skip)))
  (.seq (.seq (.reg [⟨(some 6), .op (.mv (.const (Value.int .i64 0))), none⟩])
  (.post (.block 2 (.ghost .nv lo_spec_l01Ways_0)) .nv))
  (.ghost (.kill [6]) (.post (.reg [⟨(some 70), .op (.mv (.tmp 3)), none⟩,
    ⟨(some 71), .op (.mv (.tmp 5)), none⟩,
    ⟨(some 72), .op (.lits true 1 1 (Value.slice none 0 0) [(0, (.tmp 71))]), none⟩,
    ⟨(some 73), .op (.append (.tmp 70) (.tmp 72) 1 24), none⟩,
    ⟨(some 3), .op (.mv (.tmp 73)), none⟩]) (.kill [5, 70, 71, 72, 73])))))))
  (.post (.reg [⟨(some 11), .op (.mv (.tmp 4)), none⟩,
    ⟨(some 12), .op (.bin .add (.tmp 11) (.const (Value.int .i64 1))), none⟩,
    ⟨(some 4), .op (.mv (.tmp 12)), none⟩]) (.kill [11, 12])))) .nv)
def lo_spec_l01Ways_1 : AC := (.loop lb_spec_l01Ways_1)
def ac_spec_l01Ways : AC := (.seq (.post (.reg [⟨(some 2), .op (.mv (.const (Value.slice none 0 0))), none⟩]) (.kill [2]))
  (.seq (.post (.reg [⟨(some 7), .op (.lits true 1 0 (Value.slice none 0 0) []), none⟩,
    ⟨(some 3), .op (.mv (.tmp 7)), none⟩]) (.kill [7]))
  (.seq (.seq (.reg [⟨(some 4), .op (.mv (.const (Value.int .i64 0))), none⟩])
  (.post (.block 0 (.ghost .nv lo_spec_l01Ways_1)) .nv))
  (.ghost (.kill [0, 4]) (.seq (.post (.reg [⟨(some 74), .op (.mv (.tmp 3)), none⟩,
    ⟨(some 2), .op (.mv (.tmp 74)), none⟩]) (.kill [3, 74]))
  .ret)))))
theorem cf_spec_l01Ways : chkFn Try.prog i_spec_l01Ways ac_spec_l01Ways [.tmp 2] 75 = true := by decide +kernel
def fa_spec_l01Ways : FnA := ⟨ac_spec_l01Ways, [.tmp 2], 75, false, true⟩

/-- The checked code of spec l00Min. -/
def ac_spec_l00Min : AC := (.seq (.post (.reg [⟨(some 4), .op (.mv (.const (Value.int .i64 0))), none⟩]) (.kill [4]))
  (.seq (.seq (.post (.reg [⟨(some 5), .op (.mv (.tmp 0)), none⟩,
    ⟨(some 6), .op (.mv (.tmp 1)), none⟩,
    ⟨(some 7), .op (.bin .lss (.tmp 5) (.tmp 6)), none⟩]) (.kill [5, 6]))
  (.cond (.tmp 7) (.ghost (.kill [1, 7]) (.seq (.post (.reg [⟨(some 8), .op (.mv (.tmp 0)), none⟩,
    ⟨(some 4), .op (.mv (.tmp 8)), none⟩]) (.kill [0, 8]))
  .ret))
  (.ghost (.kill [0, 7]) .skip)))
  (.seq (.post (.reg [⟨(some 9), .op (.mv (.tmp 1)), none⟩,
    ⟨(some 4), .op (.mv (.tmp 9)), none⟩]) (.kill [1, 9]))
  .ret)))
theorem cf_spec_l00Min : chkFn Try.prog i_spec_l00Min ac_spec_l00Min [.tmp 4] 10 = true := by decide +kernel
def fa_spec_l00Min : FnA := ⟨ac_spec_l00Min, [.tmp 4], 10, false, true⟩

/-- The checked code of spec l01Next. -/
def ac_spec_l01Next : AC := (.seq (.post (.reg [⟨(some 4), .op (.mv (.const (Value.int .i64 0))), none⟩]) (.kill [4]))
  (.seq (.seq (.post (.reg [⟨(some 5), .op (.mv (.tmp 1)), none⟩,
    ⟨(some 6), .call (.func i_spec_l01Call) [(.tmp 5)], none⟩]) (.kill [5]))
  (.cond (.tmp 6) (.ghost (.kill [1, 6]) (.seq (.post (.reg [⟨(some 7), .op (.mv (.tmp 0)), none⟩,
    ⟨(some 8), .op (.bin .add (.tmp 7) (.const (Value.int .i64 1))), none⟩,
    ⟨(some 4), .op (.mv (.tmp 8)), none⟩]) (.kill [0, 7, 8]))
  .ret))
  (.ghost (.kill [6]) .skip)))
  (.seq (.seq (.post (.reg [⟨(some 9), .op (.mv (.tmp 1)), none⟩,
    ⟨(some 10), .call (.func i_spec_l01Return) [(.tmp 9)], none⟩]) (.kill [1, 9]))
  (.cond (.tmp 10) (.ghost (.kill [10]) (.seq (.post (.reg [⟨(some 11), .op (.mv (.tmp 0)), none⟩,
    ⟨(some 12), .op (.bin .sub (.tmp 11) (.const (Value.int .i64 1))), none⟩,
    ⟨(some 4), .op (.mv (.tmp 12)), none⟩]) (.kill [0, 11, 12]))
  .ret))
  (.ghost (.kill [10]) .skip)))
  (.seq (.post (.reg [⟨(some 13), .op (.mv (.tmp 0)), none⟩,
    ⟨(some 4), .op (.mv (.tmp 13)), none⟩]) (.kill [0, 13]))
  .ret))))
theorem cf_spec_l01Next : chkFn Try.prog i_spec_l01Next ac_spec_l01Next [.tmp 4] 14 = true := by decide +kernel
def fa_spec_l01Next : FnA := ⟨ac_spec_l01Next, [.tmp 4], 14, false, true⟩

/-- The checked code of spec MatchedAt. -/
def lb_spec_MatchedAt_0 : AC := (.post (.seq (.seq (.post (.reg [⟨(some 33), .op (.mv (.tmp 10)), none⟩,
    ⟨(some 34), .op (.bin .lss (.tmp 33) (.const (Value.int .i64 6))), none⟩]) (.kill [33]))
  (.cond (.tmp 34) (.ghost (.kill [34]) .skip)
  (.ghost (.kill [10, 34]) (.exit 2))))
  (.seq (.block 3 (.seq (.post (.reg [⟨(some 37), .op (.mv (.tmp 8)), none⟩,
    ⟨(some 38), .op (.mv (.tmp 10)), none⟩,
    ⟨(some 39), .op (.idxStr (.const (Value.string ⟨#[40, 91, 41, 93, 97, 98]⟩)) (.tmp 38)), none⟩,
    ⟨(some 40), .call (.func i_spec_l01Next) [(.tmp 37), (.tmp 39)], none⟩,
    ⟨(some 11), .op (.mv (.tmp 40)), none⟩]) (.kill [37, 38, 39, 40]))
  (.seq (.seq (.post (.reg [⟨(some 41), .op (.mv (.tmp 11)), none⟩,
    ⟨(some 42), .op (.bin .lss (.tmp 41) (.const (Value.int .i64 0))), none⟩]) (.kill [41]))
  (.cond (.tmp 42) (.ghost (.kill [11, 42]) (.exit 3))
  (.ghost (.kill [42]) .skip)))
  (.seq (.seq (.post (.reg [⟨(some 43), .op (.mv (.tmp 1)), none⟩,
    ⟨(some 44), .op (.mv (.tmp 6)), none⟩,
    ⟨(some 45), .op (.mv (.tmp 9)), none⟩,
    ⟨(some 46), .op (.bin .sub (.tmp 45) (.const (Value.int .i64 1))), none⟩,
    ⟨(some 47), .op (.iaddrS (.tmp 44) (.tmp 46) 1), none⟩,
    ⟨(some 48), .op (.load 1 false (.tmp 47)), none⟩,
    ⟨(some 49), .op (.mv (.tmp 11)), none⟩,
    ⟨(some 50), .op (.iaddrS (.tmp 48) (.tmp 49) 1), none⟩,
    ⟨(some 51), .op (.load 1 false (.tmp 50)), none⟩,
    ⟨(some 52), .op (.bin .lss (.tmp 43) (.tmp 51)), none⟩]) (.kill [43, 44, 45, 46, 47, 48, 49, 50, 51]))
  (.cond (.tmp 52) (.ghost (.kill [8, 52]) (.seq (.post (.reg [⟨(some 53), .op (.mv (.tmp 7)), none⟩,
    ⟨(some 54), .op (.mv (.tmp 10)), none⟩,
    ⟨(some 55), .op (.idxStr (.const (Value.string ⟨#[40, 91, 41, 93, 97, 98]⟩)) (.tmp 54)), none⟩,
    ⟨(some 56), .op (.lits true 1 1 (Value.int .u8 0) [(0, (.tmp 55))]), none⟩,
    ⟨(some 57), .op (.append (.tmp 53) (.tmp 56) 1 1), none⟩,
    ⟨(some 7), .op (.mv (.tmp 57)), none⟩]) (.kill [10, 53, 54, 55, 56, 57]))
  (.seq (.post (.reg [⟨(some 58), .op (.mv (.tmp 11)), none⟩,
    ⟨(some 8), .op (.mv (.tmp 58)), none⟩]) (.kill [11, 58]))
  (.exit 2))))
  (.ghost (.kill [52]) .skip)))
  (.post (.reg [⟨(some 59), .op (.mv (.tmp 1)), none⟩,
    ⟨(some 60), .op (.mv (.tmp 6)), none⟩,
    ⟨(some 61), .op (.mv (.tmp 9)), none⟩,
    ⟨(some 62), .op (.bin .sub (.tmp 61) (.const (Value.int .i64 1))), none⟩,
    ⟨(some 63), .op (.iaddrS (.tmp 60) (.tmp 62) 1), none⟩,
    ⟨(some 64), .op (.load 1 false (.tmp 63)), none⟩,
    ⟨(some 65), .op (.mv (.tmp 11)), none⟩,
    ⟨(some 66), .op (.iaddrS (.tmp 64) (.tmp 65) 1), none⟩,
    ⟨(some 67), .op (.load 1 false (.tmp 66)), none⟩,
    ⟨(some 68), .op (.bin .sub (.tmp 59) (.tmp 67)), none⟩,
    ⟨(some 1), .op (.mv (.tmp 68)), none⟩]) (.kill [11, 59, 60, 61, 62, 63, 64, 65, 66, 67, 68]))))))
  (.post (.reg [⟨(some 35), .op (.mv (.tmp 10)), none⟩,
    ⟨(some 36), .op (.bin .add (.tmp 35) (.const (Value.int .i64 1))), none⟩,
    ⟨(some 10), .op (.mv (.tmp 36)), none⟩]) (.kill [35, 36])))) .nv)
def lo_spec_MatchedAt_0 : AC := (.loop lb_spec_MatchedAt_0)
def lb_spec_MatchedAt_1 : AC := (.post (.seq (.seq (.post (.reg [⟨(some 29), .op (.mv (.tmp 9)), none⟩,
    ⟨(some 30), .op (.bin .gtr (.tmp 29) (.const (Value.int .i64 0))), none⟩]) (.kill [29]))
  (.cond (.tmp 30) (.ghost (.kill [30]) .skip)
  (.ghost (.kill [1, 6, 8, 9, 30]) (.exit 0))))
  (.seq (.block 1 (.seq (.reg [⟨(some 10), .op (.mv (.const (Value.int .i64 0))), none⟩])
  (.post (.block 2 (.ghost .nv lo_spec_MatchedAt_0)) .nv)))
  (.ghost (.kill [10]) (.post (.reg [⟨(some 31), .op (.mv (.tmp 9)), none⟩,
    ⟨(some 32), .op (.bin .sub (.tmp 31) (.const (Value.int .i64 1))), none⟩,
    ⟨(some 9), .op (.mv (.tmp 32)), none⟩]) (.kill [31, 32]))))) .nv)
def lo_spec_MatchedAt_1 : AC := (.loop lb_spec_MatchedAt_1)
def ac_spec_MatchedAt : AC := (.seq (.post (.reg [⟨(some 4), .op (.mv (.const (Value.string ⟨#[]⟩))), none⟩,
    ⟨(some 5), .op (.mv (.const (Value.int .i64 0))), none⟩]) (.kill [4, 5]))
  (.seq (.seq (.post (.reg [⟨(some 12), .op (.mv (.tmp 0)), none⟩,
    ⟨(some 13), .call (.func i_spec_l00In) [(.tmp 12), (.const (Value.int .i64 0)), (.const (Value.int .i64 20))], none⟩,
    ⟨(some 14), .op (.un .not (.tmp 13)), none⟩]) (.kill [12, 13]))
  (.cond (.tmp 14) (.ghost (.kill [0, 1, 14]) (.seq (.reg [⟨(some 4), .op (.mv (.const (Value.string ⟨#[]⟩))), none⟩,
    ⟨(some 5), .op (.mv (.const (Value.int .i64 2))), none⟩])
  .ret))
  (.ghost (.kill [14]) .skip)))
  (.seq (.post (.reg [⟨(some 15), .op (.mv (.tmp 0)), none⟩,
    ⟨(some 16), .call (.func i_spec_l01Ways) [(.tmp 15)], none⟩,
    ⟨(some 6), .op (.mv (.tmp 16)), none⟩]) (.kill [15, 16]))
  (.seq (.seq (.post (.reg [⟨(some 17), .op (.mv (.tmp 1)), none⟩,
    ⟨(some 18), .op (.mv (.tmp 6)), none⟩,
    ⟨(some 19), .op (.mv (.tmp 0)), none⟩,
    ⟨(some 20), .op (.iaddrS (.tmp 18) (.tmp 19) 1), none⟩,
    ⟨(some 21), .op (.load 1 false (.tmp 20)), none⟩,
    ⟨(some 22), .op (.iaddrS (.tmp 21) (.const (Value.int .i64 0)) 1), none⟩,
    ⟨(some 23), .op (.load 1 false (.tmp 22)), none⟩,
    ⟨(some 24), .op (.bin .sub (.tmp 23) (.const (Value.int .i64 1))), none⟩,
    ⟨(some 25), .call (.func i_spec_l00In) [(.tmp 17), (.const (Value.int .i64 0)), (.tmp 24)], none⟩,
    ⟨(some 26), .op (.un .not (.tmp 25)), none⟩]) (.kill [17, 18, 19, 20, 21, 22, 23, 24, 25]))
  (.cond (.tmp 26) (.ghost (.kill [0, 1, 6, 26]) (.seq (.reg [⟨(some 4), .op (.mv (.const (Value.string ⟨#[]⟩))), none⟩,
    ⟨(some 5), .op (.mv (.const (Value.int .i64 2))), none⟩])
  .ret))
  (.ghost (.kill [26]) .skip)))
  (.seq (.post (.reg [⟨(some 27), .op (.lits true 1 0 (Value.int .u8 0) []), none⟩,
    ⟨(some 7), .op (.mv (.tmp 27)), none⟩]) (.kill [27]))
  (.seq (.reg [⟨(some 8), .op (.mv (.const (Value.int .i64 0))), none⟩])
  (.seq (.seq (.post (.reg [⟨(some 28), .op (.mv (.tmp 0)), none⟩,
    ⟨(some 9), .op (.mv (.tmp 28)), none⟩]) (.kill [0, 28]))
  (.post (.block 0 (.ghost .nv lo_spec_MatchedAt_1)) .nv))
  (.ghost (.kill [1, 6, 8, 9]) (.seq (.post (.reg [⟨(some 69), .op (.mv (.tmp 7)), none⟩,
    ⟨(some 70), .op (.b2s (.tmp 69)), none⟩,
    ⟨(some 4), .op (.mv (.tmp 70)), none⟩,
    ⟨(some 5), .op (.mv (.const (Value.int .i64 0))), none⟩]) (.kill [7, 69, 70]))
  .ret)))))))))
theorem cf_spec_MatchedAt : chkFn Try.prog i_spec_MatchedAt ac_spec_MatchedAt [.tmp 4, .tmp 5] 71 = true := by decide +kernel
def fa_spec_MatchedAt : FnA := ⟨ac_spec_MatchedAt, [.tmp 4, .tmp 5], 71, false, true⟩

/-- The checked code of spec l01MatchedDrawn. -/
def ac_spec_l01MatchedDrawn : AC := (.seq (.post (.reg [⟨(some 4), .op (.mv (.const (Value.string ⟨#[]⟩))), none⟩]) (.kill [4]))
  (.seq (.post (.reg [⟨(some 9), .op (.mv (.tmp 1)), none⟩,
    ⟨(some 10), .call (.func i_spec_l00Min) [(.tmp 9), (.const (Value.int .i64 12))], none⟩,
    ⟨(some 11), .call (.func i_spec_l01Ways) [(.tmp 10)], none⟩,
    ⟨(some 5), .op (.mv (.tmp 11)), none⟩]) (.kill [9, 10, 11]))
  (.seq (.post (.reg [⟨(some 12), .op (.mv (.tmp 0)), none⟩,
    ⟨(some 13), .op (.mv (.tmp 1)), none⟩,
    ⟨(some 14), .call (.func i_spec_l00Min) [(.tmp 13), (.const (Value.int .i64 12))], none⟩,
    ⟨(some 15), .op (.bin .add (.tmp 14) (.const (Value.int .i64 1))), none⟩,
    ⟨(some 16), .call (.func i_P_spec_l00Src_pick) [(.tmp 12), (.tmp 15)], none⟩,
    ⟨(some 6), .op (.mv (.tmp 16)), none⟩]) (.kill [1, 12, 13, 14, 15, 16]))
  (.seq (.post (.reg [⟨(some 18), .op (.mv (.tmp 6)), none⟩,
    ⟨(some 19), .op (.mv (.tmp 0)), none⟩,
    ⟨(some 20), .op (.mv (.tmp 5)), none⟩,
    ⟨(some 21), .op (.mv (.tmp 6)), none⟩,
    ⟨(some 22), .op (.iaddrS (.tmp 20) (.tmp 21) 1), none⟩,
    ⟨(some 23), .op (.load 1 false (.tmp 22)), none⟩,
    ⟨(some 24), .op (.iaddrS (.tmp 23) (.const (Value.int .i64 0)) 1), none⟩,
    ⟨(some 25), .op (.load 1 false (.tmp 24)), none⟩,
    ⟨(some 26), .call (.func i_P_spec_l00Src_pick) [(.tmp 19), (.tmp 25)], none⟩,
    ⟨(some 27), .call (.func i_spec_MatchedAt) [(.tmp 18), (.tmp 26)], none⟩,
    ⟨(some 17), .op (.mv (.tmp 27)), none⟩,
    ⟨(some 28), .op (.ext (.tmp 17) 0), none⟩,
    ⟨(some 29), .op (.ext (.tmp 17) 1), none⟩,
    ⟨(some 7), .op (.mv (.tmp 28)), none⟩,
    ⟨(some 8), .op (.mv (.tmp 29)), none⟩]) (.kill [0, 5, 6, 8, 17, 18, 19, 20, 21, 22, 23, 24, 25, 26, 27, 28, 29]))
  (.seq (.post (.reg [⟨(some 30), .op (.mv (.tmp 7)), none⟩,
    ⟨(some 4), .op (.mv (.tmp 30)), none⟩]) (.kill [7, 30]))
  .ret)))))
theorem cf_spec_l01MatchedDrawn : chkFn Try.prog i_spec_l01MatchedDrawn ac_spec_l01MatchedDrawn [.tmp 4] 31 = true := by decide +kernel
def fa_spec_l01MatchedDrawn : FnA := ⟨ac_spec_l01MatchedDrawn, [.tmp 4], 31, false, true⟩

/-- The checked code of spec A2Matched. -/
def ac_spec_A2Matched : AC := (.seq (.post (.reg [⟨(some 4), .op (.mv (.const (Value.string ⟨#[]⟩))), none⟩]) (.kill [4]))
  (.seq (.post (.reg [⟨(some 5), .op (.mv (.tmp 0)), none⟩,
    ⟨(some 6), .call (.func i_spec_l00From) [(.tmp 5)], none⟩,
    ⟨(some 7), .op (.mv (.tmp 1)), none⟩,
    ⟨(some 8), .call (.func i_spec_l01MatchedDrawn) [(.tmp 6), (.tmp 7)], none⟩,
    ⟨(some 4), .op (.mv (.tmp 8)), none⟩]) (.kill [0, 1, 5, 6, 7, 8]))
  .ret))
theorem cf_spec_A2Matched : chkFn Try.prog i_spec_A2Matched ac_spec_A2Matched [.tmp 4] 9 = true := by decide +kernel
def fa_spec_A2Matched : FnA := ⟨ac_spec_A2Matched, [.tmp 4], 9, false, true⟩

/-- The checked code of impl SummaryOf. -/
def lb_impl_SummaryOf_0 : AC := (.post (.seq (.reg [⟨(some 28), .op (.bin .lss (.tmp 27) (.tmp 26)), none⟩])
  (.seq (.cond (.tmp 28) (.ghost (.kill [28]) .skip)
  (.ghost (.kill [1, 2, 26, 27, 28]) (.exit 1)))
  (.seq (.block 2 (.seq (.post (.reg [⟨(some 29), .op (.mv (.tmp 27)), none⟩,
    ⟨(some 7), .op (.mv (.tmp 29)), none⟩]) (.kill [29]))
  (.seq (.post (.reg [⟨(some 31), .op (.load 6 true (.tmp 2)), none⟩,
    ⟨(some 32), .op (.mv (.tmp 7)), none⟩,
    ⟨(some 33), .op (.mv (.tmp 1)), none⟩,
    ⟨(some 34), .call (.func i_impl_Checker_end) [(.tmp 31), (.tmp 32), (.const (Value.slice none 0 0)), (.tmp 33)], none⟩,
    ⟨(some 30), .op (.mv (.tmp 34)), none⟩,
    ⟨(some 35), .op (.ext (.tmp 30) 0), none⟩,
    ⟨(some 36), .op (.ext (.tmp 30) 1), none⟩,
    ⟨(some 8), .op (.mv (.tmp 35)), none⟩,
    ⟨(some 9), .op (.mv (.tmp 36)), none⟩]) (.kill [7, 9, 30, 31, 32, 33, 34, 35, 36]))
  (.post (.reg [⟨(some 37), .op (.mv (.tmp 6)), none⟩,
    ⟨(some 38), .op (.mv (.tmp 8)), none⟩,
    ⟨(some 39), .op (.lits true 1 1 (Value.int .i64 0) [(0, (.tmp 38))]), none⟩,
    ⟨(some 40), .op (.append (.tmp 37) (.tmp 39) 1 8), none⟩,
    ⟨(some 6), .op (.mv (.tmp 40)), none⟩]) (.kill [8, 37, 38, 39, 40])))))
  (.post (.reg [⟨(some 41), .op (.bin .add (.tmp 27) (.const (Value.int .i64 1))), none⟩,
    ⟨(some 27), .op (.mv (.tmp 41)), none⟩]) (.kill [41]))))) .nv)
def lo_impl_SummaryOf_0 : AC := (.loop lb_impl_SummaryOf_0)
def ac_impl_SummaryOf : AC := (.seq (.post (.reg [⟨(some 2), .op (.box true (.tmp 0)), none⟩,
    ⟨(some 4), .op (.mv (.const (Value.slice none 0 0))), none⟩,
    ⟨(some 5), .op (.mv (.const (Value.int .i64 0))), none⟩]) (.kill [0, 4, 5]))
  (.seq (.block 0 (.seq (.post (.reg [⟨(some 11), .op (.load 6 true (.tmp 2)), none⟩,
    ⟨(some 12), .call (.func i_impl_ValidChecker) [(.tmp 11)], none⟩,
    ⟨(some 13), .op (.un .not (.tmp 12)), none⟩,
    ⟨(some 14), .op (.mv (.tmp 13)), none⟩,
    ⟨(some 15), .op (.mv (.tmp 1)), some (14, false)⟩,
    ⟨(some 16), .call (.func i_impl_ValidWord) [(.tmp 15)], some (14, false)⟩,
    ⟨(some 17), .op (.un .not (.tmp 16)), some (14, false)⟩,
    ⟨(some 18), .op (.pick (.tmp 14) (.const (Value.bool true)) (.tmp 17)), none⟩,
    ⟨(some 10), .op (.mv (.tmp 18)), none⟩]) (.kill [11, 12, 13, 14, 15, 16, 17, 18]))
  (.cond (.tmp 10) (.ghost (.kill [1, 2, 10]) (.seq (.reg [⟨(some 4), .op (.mv (.const (Value.slice none 0 0))), none⟩,
    ⟨(some 5), .op (.mv (.const (Value.int .i64 1))), none⟩])
  .ret))
  (.ghost (.kill [10]) (.seq (.post (.reg [⟨(some 20), .op (.mv (.tmp 1)), none⟩,
    ⟨(some 21), .call (.func i_impl_isMatched) [(.tmp 20)], none⟩,
    ⟨(some 22), .op (.un .not (.tmp 21)), none⟩,
    ⟨(some 19), .op (.mv (.tmp 22)), none⟩]) (.kill [20, 21, 22]))
  (.cond (.tmp 19) (.ghost (.kill [1, 2, 19]) (.seq (.reg [⟨(some 4), .op (.mv (.const (Value.slice none 0 0))), none⟩,
    ⟨(some 5), .op (.mv (.const (Value.int .i64 4))), none⟩])
  .ret))
  (.ghost (.kill [19]) .skip)))))))
  (.seq (.post (.reg [⟨(some 23), .op (.lits true 1 0 (Value.int .i64 0) []), none⟩,
    ⟨(some 6), .op (.mv (.tmp 23)), none⟩]) (.kill [23]))
  (.seq (.seq (.post (.reg [⟨(some 24), .op (.faddr (.tmp 2) 2), none⟩,
    ⟨(some 25), .op (.load 1 false (.tmp 24)), none⟩,
    ⟨(some 26), .op (.len false (.tmp 25)), none⟩,
    ⟨(some 27), .op (.mv (.const (Value.int .i64 0))), none⟩]) (.kill [24, 25]))
  (.post (.block 1 (.ghost .nv lo_impl_SummaryOf_0)) .nv))
  (.ghost (.kill [1, 2, 26, 27]) (.seq (.post (.reg [⟨(some 42), .op (.mv (.tmp 6)), none⟩,
    ⟨(some 4), .op (.mv (.tmp 42)), none⟩,
    ⟨(some 5), .op (.mv (.const (Value.int .i64 0))), none⟩]) (.kill [6, 42]))
  .ret))))))
theorem cf_impl_SummaryOf : chkFn Try.prog i_impl_SummaryOf ac_impl_SummaryOf [.tmp 4, .tmp 5] 43 = true := by decide +kernel
def fa_impl_SummaryOf : FnA := ⟨ac_impl_SummaryOf, [.tmp 4, .tmp 5], 43, false, true⟩

end Go.Proofs.Ytpjadhjjeafffaa
