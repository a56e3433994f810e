/- The code of the functions, checked against the loaded program; printed by a program (gen2.py). -/
import Derived.Test.YtegjfjckijmgcaaProg
import Derived.Test.YtegjfjckijmgcaaAw25
import Derived.Test.YtegjfjckijmgcaaG0
set_option linter.unusedVariables false
set_option maxRecDepth 100000
namespace Go.Proofs.Ytegjfjckijmgcaa
open Aw

/-- The checked code of laws markInt64SSS. -/
def lb_laws_markInt64SSS_0 : AC := (.seq (.seq (.post (.reg [⟨(some 6), .op (.mv (.tmp 5)), none⟩,
    ⟨(some 7), .op (.mv (.tmp 0)), none⟩,
    ⟨(some 8), .op (.len false (.tmp 7)), none⟩,
    ⟨(some 9), .op (.bin .lss (.tmp 6) (.tmp 8)), none⟩]) (.kill [6, 7, 8]))
  (.cond (.tmp 9) (.ghost (.kill [9]) .skip)
  (.ghost (.kill [0, 5, 9]) (.exit 0))))
  (.seq (.block 1 (.post (.reg [⟨(some 12), .op (.mv (.tmp 0)), none⟩,
    ⟨(some 13), .op (.mv (.tmp 5)), none⟩,
    ⟨(some 14), .op (.iaddrS (.tmp 12) (.tmp 13) 1), none⟩,
    ⟨(some 15), .op (.load 1 false (.tmp 14)), none⟩,
    ⟨(some 16), .op (.mv (.tmp 1)), none⟩,
    ⟨(some 17), .call (.func i_laws_markInt64SS) [(.tmp 15), (.tmp 16)], none⟩,
    ⟨(some 1), .op (.mv (.tmp 17)), none⟩]) (.kill [12, 13, 14, 15, 16, 17])))
  (.post (.reg [⟨(some 10), .op (.mv (.tmp 5)), none⟩,
    ⟨(some 11), .op (.bin .add (.tmp 10) (.const (Value.int .i64 1))), none⟩,
    ⟨(some 5), .op (.mv (.tmp 11)), none⟩]) (.kill [10, 11]))))
def lo_laws_markInt64SSS_0 : AC := (.loop lb_laws_markInt64SSS_0)
def ac_laws_markInt64SSS : AC := (.seq (.post (.reg [⟨(some 4), .op (.mv (.const (Value.int .i64 0))), none⟩]) (.kill [4]))
  (.seq (.seq (.reg [⟨(some 5), .op (.mv (.const (Value.int .i64 0))), none⟩])
  (.block 0 lo_laws_markInt64SSS_0))
  (.ghost (.kill [0, 5]) (.seq (.post (.reg [⟨(some 18), .op (.mv (.tmp 1)), none⟩,
    ⟨(some 4), .op (.mv (.tmp 18)), none⟩]) (.kill [1, 18]))
  .ret))))
theorem cf_laws_markInt64SSS : chkFn Try.prog i_laws_markInt64SSS ac_laws_markInt64SSS [.tmp 4] 19 = true := by decide +kernel
def fa_laws_markInt64SSS : FnA := ⟨ac_laws_markInt64SSS, [.tmp 4], 19, true, false, [], .any, none⟩

/-- The checked code of laws markChecker. -/
def ac_laws_markChecker : AC := (.seq (.post (.reg [⟨(some 2), .op (.box false (.tmp 0)), none⟩,
    ⟨(some 4), .op (.mv (.const (Value.int .i64 0))), none⟩]) (.kill [0, 4]))
  (.seq (.post (.reg [⟨(some 5), .op (.faddr (.tmp 2) 2), none⟩,
    ⟨(some 6), .op (.load 1 false (.tmp 5)), none⟩,
    ⟨(some 7), .op (.mv (.tmp 1)), none⟩,
    ⟨(some 8), .call (.func i_laws_markBoolS) [(.tmp 6), (.tmp 7)], none⟩,
    ⟨(some 1), .op (.mv (.tmp 8)), none⟩]) (.kill [5, 6, 7, 8]))
  (.seq (.post (.reg [⟨(some 9), .op (.faddr (.tmp 2) 3), none⟩,
    ⟨(some 10), .op (.load 1 false (.tmp 9)), none⟩,
    ⟨(some 11), .op (.mv (.tmp 1)), none⟩,
    ⟨(some 12), .call (.func i_laws_markPushSS) [(.tmp 10), (.tmp 11)], none⟩,
    ⟨(some 1), .op (.mv (.tmp 12)), none⟩]) (.kill [9, 10, 11, 12]))
  (.seq (.post (.reg [⟨(some 13), .op (.faddr (.tmp 2) 4), none⟩,
    ⟨(some 14), .op (.load 1 false (.tmp 13)), none⟩,
    ⟨(some 15), .op (.mv (.tmp 1)), none⟩,
    ⟨(some 16), .call (.func i_laws_markInt64SSS) [(.tmp 14), (.tmp 15)], none⟩,
    ⟨(some 1), .op (.mv (.tmp 16)), none⟩]) (.kill [13, 14, 15, 16]))
  (.seq (.post (.reg [⟨(some 17), .op (.faddr (.tmp 2) 5), none⟩,
    ⟨(some 18), .op (.load 1 false (.tmp 17)), none⟩,
    ⟨(some 19), .op (.mv (.tmp 1)), none⟩,
    ⟨(some 20), .call (.func i_laws_markInt64SS) [(.tmp 18), (.tmp 19)], none⟩,
    ⟨(some 1), .op (.mv (.tmp 20)), none⟩]) (.kill [2, 17, 18, 19, 20]))
  (.seq (.post (.reg [⟨(some 21), .op (.mv (.tmp 1)), none⟩,
    ⟨(some 4), .op (.mv (.tmp 21)), none⟩]) (.kill [1, 21]))
  .ret))))))
theorem cf_laws_markChecker : chkFn Try.prog i_laws_markChecker ac_laws_markChecker [.tmp 4] 22 = true := by decide +kernel
def fa_laws_markChecker : FnA := ⟨ac_laws_markChecker, [.tmp 4], 22, true, false, [], .any, none⟩

/-- The checked code of laws heldInt64S. -/
def lb_laws_heldInt64S_0 : AC := (.seq (.seq (.post (.reg [⟨(some 6), .op (.mv (.tmp 5)), none⟩,
    ⟨(some 7), .op (.mv (.tmp 0)), none⟩,
    ⟨(some 8), .op (.len false (.tmp 7)), none⟩,
    ⟨(some 9), .op (.bin .lss (.tmp 6) (.tmp 8)), none⟩]) (.kill [6, 7, 8]))
  (.cond (.tmp 9) (.ghost (.kill [9]) .skip)
  (.ghost (.kill [0, 5, 9]) (.exit 0))))
  (.seq (.block 1 (.seq (.seq (.post (.reg [⟨(some 12), .op (.mv (.tmp 0)), none⟩,
    ⟨(some 13), .op (.mv (.tmp 5)), none⟩,
    ⟨(some 14), .op (.iaddrS (.tmp 12) (.tmp 13) 1), none⟩,
    ⟨(some 15), .op (.load 1 false (.tmp 14)), none⟩,
    ⟨(some 16), .op (.mv (.tmp 1)), none⟩,
    ⟨(some 17), .op (.bin .neq (.tmp 15) (.tmp 16)), none⟩]) (.kill [12, 13, 14, 15, 16]))
  (.cond (.tmp 17) (.ghost (.kill [0, 1, 5, 17]) (.seq (.reg [⟨(some 4), .op (.mv (.const (Value.int .i64 (-1)))), none⟩])
  .ret))
  (.ghost (.kill [17]) .skip)))
  (.post (.reg [⟨(some 18), .op (.mv (.tmp 1)), none⟩,
    ⟨(some 19), .op (.bin .add (.tmp 18) (.const (Value.int .i64 1))), none⟩,
    ⟨(some 1), .op (.mv (.tmp 19)), none⟩]) (.kill [18, 19]))))
  (.post (.reg [⟨(some 10), .op (.mv (.tmp 5)), none⟩,
    ⟨(some 11), .op (.bin .add (.tmp 10) (.const (Value.int .i64 1))), none⟩,
    ⟨(some 5), .op (.mv (.tmp 11)), none⟩]) (.kill [10, 11]))))
def lo_laws_heldInt64S_0 : AC := (.loop lb_laws_heldInt64S_0)
def ac_laws_heldInt64S : AC := (.seq (.post (.reg [⟨(some 4), .op (.mv (.const (Value.int .i64 0))), none⟩]) (.kill [4]))
  (.seq (.seq (.reg [⟨(some 5), .op (.mv (.const (Value.int .i64 0))), none⟩])
  (.block 0 lo_laws_heldInt64S_0))
  (.ghost (.kill [0, 5]) (.seq (.post (.reg [⟨(some 20), .op (.mv (.tmp 1)), none⟩,
    ⟨(some 4), .op (.mv (.tmp 20)), none⟩]) (.kill [1, 20]))
  .ret))))
theorem cf_laws_heldInt64S : chkFn Try.prog i_laws_heldInt64S ac_laws_heldInt64S [.tmp 4] 21 = true := by decide +kernel
def fa_laws_heldInt64S : FnA := ⟨ac_laws_heldInt64S, [.tmp 4], 21, false, true, [(.lst 1 .any), .any], .any, none⟩

/-- The checked code of laws FnExactRunOf. -/
def ac_laws_FnExactRunOf : AC := (.seq (.post (.reg [⟨(some 2), .op (.box true (.tmp 0)), none⟩,
    ⟨(some 4), .op (.mv (.const (Value.bool false))), none⟩]) (.kill [0, 4]))
  (.seq (.seq (.post (.reg [⟨(some 19), .op (.mv (.tmp 1)), none⟩,
    ⟨(some 20), .op (.len true (.tmp 19)), none⟩,
    ⟨(some 21), .op (.bin .gtr (.tmp 20) (.const (Value.int .i64 1048576))), none⟩]) (.kill [19, 20]))
  (.cond (.tmp 21) (.ghost (.kill [1, 2, 21]) (.seq (.reg [⟨(some 4), .op (.mv (.const (Value.bool true))), none⟩])
  .ret))
  (.ghost (.kill [21]) .skip)))
  (.seq (.reg [⟨(some 5), .op (.mv (.const (Value.int .i64 1048576))), none⟩])
  (.seq (.post (.reg [⟨(some 22), .op (.load 6 true (.tmp 2)), none⟩,
    ⟨(some 23), .op (.mv (.tmp 5)), none⟩,
    ⟨(some 24), .call (.func i_laws_szChecker) [(.tmp 22), (.tmp 23)], none⟩,
    ⟨(some 5), .op (.mv (.tmp 24)), none⟩]) (.kill [22, 23, 24]))
  (.seq (.seq (.post (.reg [⟨(some 25), .op (.mv (.tmp 5)), none⟩,
    ⟨(some 26), .op (.bin .lss (.tmp 25) (.const (Value.int .i64 0))), none⟩]) (.kill [5, 25]))
  (.cond (.tmp 26) (.ghost (.kill [1, 2, 26]) (.seq (.reg [⟨(some 4), .op (.mv (.const (Value.bool true))), none⟩])
  .ret))
  (.ghost (.kill [26]) .skip)))
  (.seq (.post (.reg [⟨(some 28), .op (.load 6 true (.tmp 2)), none⟩,
    ⟨(some 29), .call (.func i_laws_toChecker) [(.tmp 28)] true, none⟩,
    ⟨(some 30), .op (.mv (.tmp 1)), none⟩,
    ⟨(some 31), .call (.func i_spec_RunOf) [(.tmp 29), (.tmp 30)], none⟩,
    ⟨(some 27), .op (.mv (.tmp 31)), none⟩,
    ⟨(some 32), .op (.ext (.tmp 27) 0), none⟩,
    ⟨(some 33), .op (.ext (.tmp 27) 1), none⟩,
    ⟨(some 34), .op (.ext (.tmp 27) 2), none⟩,
    ⟨(some 6), .op (.mv (.tmp 32)), none⟩,
    ⟨(some 7), .op (.mv (.tmp 33)), none⟩,
    ⟨(some 8), .op (.mv (.tmp 34)), none⟩]) (.kill [27, 28, 29, 30, 31, 32, 33, 34]))
  (.seq (.post (.reg [⟨(some 35), .op (.load 6 true (.tmp 2)), none⟩,
    ⟨(some 36), .call (.func i_laws_toChecker) [(.tmp 35)], none⟩,
    ⟨(some 9), .op (.alloc (Value.agg #[Value.int .i64 0, Value.int .i64 0, Value.slice none 0 0, Value.slice none 0 0, Value.slice none 0 0, Value.slice none 0 0])), none⟩,
    ⟨none, .op (.store 6 (.tmp 9) (.tmp 36)), none⟩]) (.kill [35, 36]))
  (.seq (.post (.reg [⟨(some 38), .op (.load 6 true (.tmp 9)), none⟩,
    ⟨(some 39), .op (.mv (.tmp 1)), none⟩,
    ⟨(some 40), .call (.func i_impl_RunOf) [(.tmp 38), (.tmp 39)], none⟩,
    ⟨(some 37), .op (.mv (.tmp 40)), none⟩,
    ⟨(some 41), .op (.ext (.tmp 37) 0), none⟩,
    ⟨(some 42), .op (.ext (.tmp 37) 1), none⟩,
    ⟨(some 43), .op (.ext (.tmp 37) 2), none⟩,
    ⟨(some 10), .op (.mv (.tmp 41)), none⟩,
    ⟨(some 11), .op (.mv (.tmp 42)), none⟩,
    ⟨(some 12), .op (.mv (.tmp 43)), none⟩]) (.kill [37, 38, 39, 40, 41, 42, 43]))
  (.seq (.seq (.post (.reg [⟨(some 44), .op (.mv (.tmp 10)), none⟩,
    ⟨(some 45), .op (.mv (.tmp 6)), none⟩,
    ⟨(some 46), .call (.func i_laws_eqInt64S) [(.tmp 44), (.tmp 45)], none⟩,
    ⟨(some 47), .op (.un .not (.tmp 46)), none⟩,
    ⟨(some 48), .op (.mv (.tmp 47)), none⟩,
    ⟨(some 49), .op (.mv (.tmp 11)), some (48, false)⟩,
    ⟨(some 50), .op (.mv (.tmp 7)), some (48, false)⟩,
    ⟨(some 51), .call (.func i_laws_eqInt64S) [(.tmp 49), (.tmp 50)], some (48, false)⟩,
    ⟨(some 52), .op (.un .not (.tmp 51)), some (48, false)⟩,
    ⟨(some 53), .op (.pick (.tmp 48) (.const (Value.bool true)) (.tmp 52)), none⟩,
    ⟨(some 54), .op (.mv (.tmp 53)), none⟩,
    ⟨(some 55), .op (.mv (.tmp 12)), some (54, false)⟩,
    ⟨(some 56), .op (.mv (.tmp 8)), some (54, false)⟩,
    ⟨(some 57), .op (.bin .neq (.tmp 55) (.tmp 56)), some (54, false)⟩,
    ⟨(some 58), .op (.pick (.tmp 54) (.const (Value.bool true)) (.tmp 57)), none⟩]) (.kill [44, 45, 46, 47, 48, 49, 50, 51, 52, 53, 54, 55, 56, 57]))
  (.cond (.tmp 58) (.ghost (.kill [1, 2, 6, 7, 8, 9, 10, 11, 12, 58]) (.seq (.reg [⟨(some 4), .op (.mv (.const (Value.bool false))), none⟩])
  .ret))
  (.ghost (.kill [58]) .skip)))
  (.seq (.seq (.post (.draw [⟨0, ⟨(some 59), .op (.load 6 true (.tmp 9)), none⟩, []⟩,
    ⟨1, ⟨(some 60), .op (.load 6 true (.tmp 2)), none⟩, []⟩,
    ⟨2, ⟨(some 61), .call (.func i_laws_toChecker) [(.tmp 60)], none⟩, [0]⟩,
    ⟨3, ⟨(some 62), .call (.func i_laws_eqChecker) [(.tmp 59), (.tmp 61)], none⟩, []⟩,
    ⟨4, ⟨(some 63), .op (.un .not (.tmp 62)), none⟩, []⟩]
    [0, 0, 2, 7, 15]) (.kill [59, 60, 61, 62]))
  (.cond (.tmp 63) (.ghost (.kill [1, 2, 6, 7, 8, 9, 10, 11, 12, 63]) (.seq (.reg [⟨(some 4), .op (.mv (.const (Value.bool false))), none⟩])
  .ret))
  (.ghost (.kill [63]) .skip)))
  (.seq (.reg [⟨(some 13), .op (.mv (.const (Value.int .i64 1))), none⟩])
  (.seq (.post (.reg [⟨(some 64), .op (.load 6 true (.tmp 9)), none⟩,
    ⟨(some 65), .op (.mv (.tmp 13)), none⟩,
    ⟨(some 66), .call (.func i_laws_markChecker) [(.tmp 64), (.tmp 65)], none⟩,
    ⟨(some 13), .op (.mv (.tmp 66)), none⟩]) (.kill [9, 64, 65, 66]))
  (.seq (.seq (.post (.reg [⟨(some 67), .op (.mv (.tmp 13)), none⟩,
    ⟨(some 68), .op (.bin .lss (.tmp 67) (.const (Value.int .i64 0))), none⟩,
    ⟨(some 69), .op (.mv (.tmp 68)), none⟩,
    ⟨(some 70), .op (.mv (.tmp 10)), some (69, false)⟩,
    ⟨(some 71), .op (.mv (.tmp 6)), some (69, false)⟩,
    ⟨(some 72), .call (.func i_laws_eqInt64S) [(.tmp 70), (.tmp 71)], some (69, false)⟩,
    ⟨(some 73), .op (.un .not (.tmp 72)), some (69, false)⟩,
    ⟨(some 74), .op (.pick (.tmp 69) (.const (Value.bool true)) (.tmp 73)), none⟩,
    ⟨(some 75), .op (.mv (.tmp 74)), none⟩,
    ⟨(some 76), .op (.mv (.tmp 11)), some (75, false)⟩,
    ⟨(some 77), .op (.mv (.tmp 7)), some (75, false)⟩,
    ⟨(some 78), .call (.func i_laws_eqInt64S) [(.tmp 76), (.tmp 77)], some (75, false)⟩,
    ⟨(some 79), .op (.un .not (.tmp 78)), some (75, false)⟩,
    ⟨(some 80), .op (.pick (.tmp 75) (.const (Value.bool true)) (.tmp 79)), none⟩,
    ⟨(some 81), .op (.mv (.tmp 80)), none⟩,
    ⟨(some 82), .op (.mv (.tmp 12)), some (81, false)⟩,
    ⟨(some 83), .op (.mv (.tmp 8)), some (81, false)⟩,
    ⟨(some 84), .op (.bin .neq (.tmp 82) (.tmp 83)), some (81, false)⟩,
    ⟨(some 85), .op (.pick (.tmp 81) (.const (Value.bool true)) (.tmp 84)), none⟩]) (.kill [12, 13, 67, 68, 69, 70, 71, 72, 73, 74, 75, 76, 77, 78, 79, 80, 81, 82, 83, 84]))
  (.cond (.tmp 85) (.ghost (.kill [1, 2, 6, 7, 8, 10, 11, 85]) (.seq (.reg [⟨(some 4), .op (.mv (.const (Value.bool false))), none⟩])
  .ret))
  (.ghost (.kill [85]) .skip)))
  (.seq (.reg [⟨(some 14), .op (.mv (.const (Value.int .i64 1))), none⟩])
  (.seq (.post (.reg [⟨(some 86), .op (.mv (.tmp 10)), none⟩,
    ⟨(some 87), .op (.mv (.tmp 14)), none⟩,
    ⟨(some 88), .call (.func i_laws_markInt64S) [(.tmp 86), (.tmp 87)], none⟩,
    ⟨(some 14), .op (.mv (.tmp 88)), none⟩]) (.kill [86, 87, 88]))
  (.seq (.post (.reg [⟨(some 89), .op (.mv (.tmp 11)), none⟩,
    ⟨(some 90), .op (.mv (.tmp 14)), none⟩,
    ⟨(some 91), .call (.func i_laws_markInt64S) [(.tmp 89), (.tmp 90)], none⟩,
    ⟨(some 14), .op (.mv (.tmp 91)), none⟩]) (.kill [89, 90, 91]))
  (.seq (.reg [⟨(some 15), .op (.mv (.const (Value.int .i64 1))), none⟩])
  (.seq (.post (.reg [⟨(some 92), .op (.mv (.tmp 10)), none⟩,
    ⟨(some 93), .op (.mv (.tmp 15)), none⟩,
    ⟨(some 94), .call (.func i_laws_heldInt64S) [(.tmp 92), (.tmp 93)], none⟩,
    ⟨(some 15), .op (.mv (.tmp 94)), none⟩]) (.kill [92, 93, 94]))
  (.seq (.seq (.post (.reg [⟨(some 95), .op (.mv (.tmp 15)), none⟩,
    ⟨(some 96), .op (.bin .lss (.tmp 95) (.const (Value.int .i64 0))), none⟩]) (.kill [95]))
  (.cond (.tmp 96) (.ghost (.kill [1, 2, 6, 7, 8, 10, 11, 14, 15, 96]) (.seq (.reg [⟨(some 4), .op (.mv (.const (Value.bool false))), none⟩])
  .ret))
  (.ghost (.kill [96]) .skip)))
  (.seq (.post (.reg [⟨(some 97), .op (.mv (.tmp 11)), none⟩,
    ⟨(some 98), .op (.mv (.tmp 15)), none⟩,
    ⟨(some 99), .call (.func i_laws_heldInt64S) [(.tmp 97), (.tmp 98)], none⟩,
    ⟨(some 15), .op (.mv (.tmp 99)), none⟩]) (.kill [97, 98, 99]))
  (.seq (.seq (.post (.reg [⟨(some 100), .op (.mv (.tmp 15)), none⟩,
    ⟨(some 101), .op (.bin .lss (.tmp 100) (.const (Value.int .i64 0))), none⟩]) (.kill [100]))
  (.cond (.tmp 101) (.ghost (.kill [1, 2, 6, 7, 8, 10, 11, 14, 15, 101]) (.seq (.reg [⟨(some 4), .op (.mv (.const (Value.bool false))), none⟩])
  .ret))
  (.ghost (.kill [101]) .skip)))
  (.seq (.seq (.post (.reg [⟨(some 102), .op (.mv (.tmp 15)), none⟩,
    ⟨(some 103), .op (.mv (.tmp 14)), none⟩,
    ⟨(some 104), .op (.bin .neq (.tmp 102) (.tmp 103)), none⟩]) (.kill [15, 102, 103]))
  (.cond (.tmp 104) (.ghost (.kill [1, 2, 6, 7, 8, 10, 11, 14, 104]) (.seq (.reg [⟨(some 4), .op (.mv (.const (Value.bool false))), none⟩])
  .ret))
  (.ghost (.kill [104]) .skip)))
  (.seq (.post (.reg [⟨(some 106), .op (.load 6 true (.tmp 2)), none⟩,
    ⟨(some 107), .call (.func i_laws_toChecker) [(.tmp 106)], none⟩,
    ⟨(some 108), .op (.mv (.tmp 1)), none⟩,
    ⟨(some 109), .call (.func i_impl_RunOf) [(.tmp 107), (.tmp 108)], none⟩,
    ⟨(some 105), .op (.mv (.tmp 109)), none⟩,
    ⟨(some 110), .op (.ext (.tmp 105) 0), none⟩,
    ⟨(some 111), .op (.ext (.tmp 105) 1), none⟩,
    ⟨(some 112), .op (.ext (.tmp 105) 2), none⟩,
    ⟨(some 16), .op (.mv (.tmp 110)), none⟩,
    ⟨(some 17), .op (.mv (.tmp 111)), none⟩,
    ⟨(some 18), .op (.mv (.tmp 112)), none⟩]) (.kill [1, 2, 105, 106, 107, 108, 109, 110, 111, 112]))
  (.seq (.seq (.post (.reg [⟨(some 113), .op (.mv (.tmp 16)), none⟩,
    ⟨(some 114), .op (.mv (.tmp 6)), none⟩,
    ⟨(some 115), .call (.func i_laws_eqInt64S) [(.tmp 113), (.tmp 114)], none⟩,
    ⟨(some 116), .op (.un .not (.tmp 115)), none⟩,
    ⟨(some 117), .op (.mv (.tmp 116)), none⟩,
    ⟨(some 118), .op (.mv (.tmp 17)), some (117, false)⟩,
    ⟨(some 119), .op (.mv (.tmp 7)), some (117, false)⟩,
    ⟨(some 120), .call (.func i_laws_eqInt64S) [(.tmp 118), (.tmp 119)], some (117, false)⟩,
    ⟨(some 121), .op (.un .not (.tmp 120)), some (117, false)⟩,
    ⟨(some 122), .op (.pick (.tmp 117) (.const (Value.bool true)) (.tmp 121)), none⟩,
    ⟨(some 123), .op (.mv (.tmp 122)), none⟩,
    ⟨(some 124), .op (.mv (.tmp 18)), some (123, false)⟩,
    ⟨(some 125), .op (.mv (.tmp 8)), some (123, false)⟩,
    ⟨(some 126), .op (.bin .neq (.tmp 124) (.tmp 125)), some (123, false)⟩,
    ⟨(some 127), .op (.pick (.tmp 123) (.const (Value.bool true)) (.tmp 126)), none⟩]) (.kill [6, 7, 8, 16, 17, 18, 113, 114, 115, 116, 117, 118, 119, 120, 121, 122, 123, 124, 125, 126]))
  (.cond (.tmp 127) (.ghost (.kill [10, 11, 14, 127]) (.seq (.reg [⟨(some 4), .op (.mv (.const (Value.bool false))), none⟩])
  .ret))
  (.ghost (.kill [127]) .skip)))
  (.seq (.reg [⟨(some 15), .op (.mv (.const (Value.int .i64 1))), none⟩])
  (.seq (.post (.reg [⟨(some 128), .op (.mv (.tmp 10)), none⟩,
    ⟨(some 129), .op (.mv (.tmp 15)), none⟩,
    ⟨(some 130), .call (.func i_laws_heldInt64S) [(.tmp 128), (.tmp 129)], none⟩,
    ⟨(some 15), .op (.mv (.tmp 130)), none⟩]) (.kill [10, 128, 129, 130]))
  (.seq (.seq (.post (.reg [⟨(some 131), .op (.mv (.tmp 15)), none⟩,
    ⟨(some 132), .op (.bin .lss (.tmp 131) (.const (Value.int .i64 0))), none⟩]) (.kill [131]))
  (.cond (.tmp 132) (.ghost (.kill [11, 14, 15, 132]) (.seq (.reg [⟨(some 4), .op (.mv (.const (Value.bool false))), none⟩])
  .ret))
  (.ghost (.kill [132]) .skip)))
  (.seq (.post (.reg [⟨(some 133), .op (.mv (.tmp 11)), none⟩,
    ⟨(some 134), .op (.mv (.tmp 15)), none⟩,
    ⟨(some 135), .call (.func i_laws_heldInt64S) [(.tmp 133), (.tmp 134)], none⟩,
    ⟨(some 15), .op (.mv (.tmp 135)), none⟩]) (.kill [11, 133, 134, 135]))
  (.seq (.seq (.post (.reg [⟨(some 136), .op (.mv (.tmp 15)), none⟩,
    ⟨(some 137), .op (.bin .lss (.tmp 136) (.const (Value.int .i64 0))), none⟩]) (.kill [136]))
  (.cond (.tmp 137) (.ghost (.kill [14, 15, 137]) (.seq (.reg [⟨(some 4), .op (.mv (.const (Value.bool false))), none⟩])
  .ret))
  (.ghost (.kill [137]) .skip)))
  (.seq (.seq (.post (.reg [⟨(some 138), .op (.mv (.tmp 15)), none⟩,
    ⟨(some 139), .op (.mv (.tmp 14)), none⟩,
    ⟨(some 140), .op (.bin .neq (.tmp 138) (.tmp 139)), none⟩]) (.kill [14, 15, 138, 139]))
  (.cond (.tmp 140) (.ghost (.kill [140]) (.seq (.reg [⟨(some 4), .op (.mv (.const (Value.bool false))), none⟩])
  .ret))
  (.ghost (.kill [140]) .skip)))
  (.seq (.reg [⟨(some 4), .op (.mv (.const (Value.bool true))), none⟩])
  .ret)))))))))))))))))))))))))))))))
theorem cf_laws_FnExactRunOf : chkFn Try.prog i_laws_FnExactRunOf ac_laws_FnExactRunOf [.tmp 4] 141 = true := by decide +kernel
def fa_laws_FnExactRunOf : FnA := ⟨ac_laws_FnExactRunOf, [.tmp 4], 141, false, true, [], .any, none⟩

/-- The checked code of spec StacksOf. -/
def lb_spec_StacksOf_0 : AC := (.post (.seq (.seq (.post (.reg [⟨(some 22), .op (.mv (.tmp 10)), none⟩,
    ⟨(some 23), .op (.mv (.tmp 1)), none⟩,
    ⟨(some 24), .op (.len true (.tmp 23)), none⟩,
    ⟨(some 25), .op (.bin .lss (.tmp 22) (.tmp 24)), none⟩]) (.kill [22, 23, 24]))
  (.cond (.tmp 25) (.ghost (.kill [25]) .skip)
  (.ghost (.kill [1, 2, 8, 9, 10, 25]) (.exit 0))))
  (.seq (.block 1 (.seq (.post (.reg [⟨(some 29), .op (.mv (.tmp 8)), none⟩,
    ⟨(some 30), .op (.mv (.tmp 9)), none⟩,
    ⟨(some 31), .op (.mv (.tmp 1)), none⟩,
    ⟨(some 32), .op (.mv (.tmp 10)), none⟩,
    ⟨(some 33), .op (.idxStr (.tmp 31) (.tmp 32)), none⟩,
    ⟨(some 34), .call (.func i_spec_l02Step) [(.tmp 2), (.tmp 29), (.tmp 30), (.tmp 33)], none⟩,
    ⟨(some 28), .op (.mv (.tmp 34)), none⟩,
    ⟨(some 35), .op (.ext (.tmp 28) 0), none⟩,
    ⟨(some 36), .op (.ext (.tmp 28) 1), none⟩,
    ⟨(some 8), .op (.mv (.tmp 35)), none⟩,
    ⟨(some 9), .op (.mv (.tmp 36)), none⟩]) (.kill [28, 29, 30, 31, 32, 33, 34, 35, 36]))
  (.post (.post (.reg [⟨(some 37), .op (.mv (.tmp 7)), none⟩,
    ⟨(some 38), .op (.mv (.tmp 9)), none⟩,
    ⟨(some 39), .call (.func i_spec_l00Own) [(.tmp 38)], none⟩,
    ⟨(some 40), .op (.lits true 1 1 (Value.slice none 0 0) [(0, (.tmp 39))]), none⟩,
    ⟨(some 41), .op (.append (.tmp 37) (.tmp 40) 1 24), none⟩,
    ⟨(some 7), .op (.mv (.tmp 41)), none⟩]) (.kill [37, 38, 39, 40, 41])) .nv)))
  (.post (.reg [⟨(some 26), .op (.mv (.tmp 10)), none⟩,
    ⟨(some 27), .op (.bin .add (.tmp 26) (.const (Value.int .i64 1))), none⟩,
    ⟨(some 10), .op (.mv (.tmp 27)), none⟩]) (.kill [26, 27])))) .nv)
def lo_spec_StacksOf_0 : AC := (.loop lb_spec_StacksOf_0)
def ac_spec_StacksOf : AC := (.seq (.post (.reg [⟨(some 2), .op (.box true (.tmp 0)), none⟩,
    ⟨(some 4), .op (.mv (.const (Value.slice none 0 0))), none⟩,
    ⟨(some 5), .op (.mv (.const (Value.int .i64 0))), none⟩]) (.kill [0, 4, 5]))
  (.seq (.seq (.post (.reg [⟨(some 11), .op (.mv (.tmp 1)), none⟩,
    ⟨(some 12), .call (.func i_spec_l02Given) [(.tmp 2), (.tmp 11)], none⟩,
    ⟨(some 6), .op (.mv (.tmp 12)), none⟩]) (.kill [11, 12]))
  (.seq (.post (.reg [⟨(some 13), .op (.mv (.tmp 6)), none⟩,
    ⟨(some 14), .op (.bin .neq (.tmp 13) (.const (Value.int .i64 0))), none⟩]) (.kill [13]))
  (.cond (.tmp 14) (.ghost (.kill [1, 2, 14]) (.seq (.post (.reg [⟨(some 15), .op (.lits true 1 0 (Value.slice none 0 0) []), none⟩,
    ⟨(some 16), .op (.mv (.tmp 6)), none⟩,
    ⟨(some 4), .op (.mv (.tmp 15)), none⟩,
    ⟨(some 5), .op (.mv (.tmp 16)), none⟩]) (.kill [6, 15, 16]))
  .ret))
  (.ghost (.kill [6, 14]) .skip))))
  (.seq (.post (.reg [⟨(some 17), .op (.lits true 1 0 (Value.int .i64 0) []), none⟩,
    ⟨(some 18), .op (.lits false 1 1 (Value.slice none 0 0) [(0, (.tmp 17))]), none⟩,
    ⟨(some 7), .op (.mv (.tmp 18)), none⟩]) (.kill [17, 18]))
  (.seq (.post (.reg [⟨(some 19), .op (.faddr (.tmp 2) 1), none⟩,
    ⟨(some 20), .op (.load 1 false (.tmp 19)), none⟩,
    ⟨(some 8), .op (.mv (.tmp 20)), none⟩]) (.kill [19, 20]))
  (.seq (.post (.reg [⟨(some 21), .op (.lits true 1 0 (Value.int .i64 0) []), none⟩,
    ⟨(some 9), .op (.mv (.tmp 21)), none⟩]) (.kill [21]))
  (.seq (.seq (.reg [⟨(some 10), .op (.mv (.const (Value.int .i64 0))), none⟩])
  (.post (.block 0 (.ghost (.ow 7 none 1) (.ghost .nv lo_spec_StacksOf_0))) .nv))
  (.ghost (.kill [1, 2, 8, 9, 10]) (.seq (.post (.reg [⟨(some 42), .op (.mv (.tmp 7)), none⟩,
    ⟨(some 4), .op (.mv (.tmp 42)), none⟩,
    ⟨(some 5), .op (.mv (.const (Value.int .i64 0))), none⟩]) (.kill [7, 42]))
  .ret))))))))
theorem cf_spec_StacksOf : chkFn Try.prog i_spec_StacksOf ac_spec_StacksOf [.tmp 4, .tmp 5] 43 = true := by decide +kernel
def fa_spec_StacksOf : FnA := ⟨ac_spec_StacksOf, [.tmp 4, .tmp 5], 43, false, false, [(.agg [.any, .any, (.lst 1 .any), (.lst 1 (.lst 2 .any)), (.lst 1 (.lst 1 (.lst 1 .any))), (.lst 1 (.lst 1 .any))]), .any], .any, none⟩

/-- The checked code of impl StacksOf 1. -/
def ac_impl_StacksOf_1 : AC := (.ghost (.kill [0]) (.post (.post (.draw [⟨0, ⟨(some 5), .op (.load 1 false (.tmp 2)), none⟩, []⟩,
    ⟨1, ⟨(some 6), .op (.mv (.tmp 1)), none⟩, []⟩,
    ⟨2, ⟨(some 7), .call (.func i_slices_Clone_L_int64) [(.tmp 6)], none⟩, [0]⟩,
    ⟨3, ⟨(some 8), .op (.lits true 1 1 (Value.slice none 0 0) [(0, (.tmp 7))]), none⟩, []⟩,
    ⟨4, ⟨(some 9), .op (.append (.tmp 5) (.tmp 8) 1 24), none⟩, []⟩,
    ⟨5, ⟨none, .op (.store 1 (.tmp 2) (.tmp 9)), none⟩, []⟩]
    [0, 0, 2, 6, 15, 31]) (.kill [1, 2, 5, 6, 7, 8, 9])) .nv))
theorem cf_impl_StacksOf_1 : chkFn Try.prog i_impl_StacksOf_1 ac_impl_StacksOf_1 [] 10 = true := by decide +kernel
def fa_impl_StacksOf_1 : FnA := ⟨ac_impl_StacksOf_1, [], 10, true, false, [], .any, none⟩

/-- The checked code of impl StacksOf. -/
def ac_impl_StacksOf : AC := (.seq (.post (.reg [⟨(some 2), .op (.box false (.tmp 0)), none⟩,
    ⟨(some 4), .op (.mv (.const (Value.slice none 0 0))), none⟩,
    ⟨(some 5), .op (.mv (.const (Value.int .i64 0))), none⟩]) (.kill [0, 4, 5]))
  (.seq (.seq (.post (.reg [⟨(some 7), .op (.load 6 true (.tmp 2)), none⟩,
    ⟨(some 8), .call (.func i_impl_ValidChecker) [(.tmp 7)], none⟩,
    ⟨(some 9), .op (.un .not (.tmp 8)), none⟩,
    ⟨(some 10), .op (.mv (.tmp 9)), none⟩,
    ⟨(some 11), .op (.mv (.tmp 1)), some (10, false)⟩,
    ⟨(some 12), .call (.func i_impl_ValidWord) [(.tmp 11)], some (10, false)⟩,
    ⟨(some 13), .op (.un .not (.tmp 12)), some (10, false)⟩,
    ⟨(some 14), .op (.pick (.tmp 10) (.const (Value.bool true)) (.tmp 13)), none⟩]) (.kill [7, 8, 9, 10, 11, 12, 13]))
  (.cond (.tmp 14) (.ghost (.kill [1, 2, 14]) (.seq (.reg [⟨(some 4), .op (.mv (.const (Value.slice none 0 0))), none⟩,
    ⟨(some 5), .op (.mv (.const (Value.int .i64 1))), none⟩])
  .ret))
  (.ghost (.kill [14]) .skip)))
  (.seq (.post (.reg [⟨(some 15), .op (.lits true 1 0 (Value.slice none 0 0) []), none⟩,
    ⟨(some 6), .op (.alloc (Value.slice none 0 0)), none⟩,
    ⟨none, .op (.store 1 (.tmp 6) (.tmp 15)), none⟩]) (.kill [15]))
  (.seq (.post (.reg [⟨(some 16), .op (.load 6 true (.tmp 2)), none⟩,
    ⟨(some 17), .op (.faddr (.tmp 2) 1), none⟩,
    ⟨(some 18), .op (.load 1 false (.tmp 17)), none⟩,
    ⟨(some 19), .op (.mv (.tmp 1)), none⟩,
    ⟨(some 20), .op (.mkfn i_impl_StacksOf_1 [(.tmp 6)]), none⟩,
    ⟨(some 21), .call (.func i_impl_Checker_run) [(.tmp 16), (.tmp 18), (.const (Value.slice none 0 0)), (.tmp 19), (.tmp 20)], none⟩]) (.kill [1, 2, 16, 17, 18, 19, 20, 21]))
  (.seq (.post (.reg [⟨(some 22), .op (.load 1 false (.tmp 6)), none⟩,
    ⟨(some 4), .op (.mv (.tmp 22)), none⟩,
    ⟨(some 5), .op (.mv (.const (Value.int .i64 0))), none⟩]) (.kill [6, 22]))
  .ret)))))
theorem cf_impl_StacksOf : chkFn Try.prog i_impl_StacksOf ac_impl_StacksOf [.tmp 4, .tmp 5] 23 = true := by decide +kernel
def fa_impl_StacksOf : FnA := ⟨ac_impl_StacksOf, [.tmp 4, .tmp 5], 23, false, false, [(.agg [.any, .any, (.lst 1 .any), (.lst 1 (.lst 2 .any)), (.lst 1 (.lst 1 (.lst 1 .any))), (.lst 1 (.lst 1 .any))]), .any], .any, none⟩

/-- The checked code of laws heldInt64SS. -/
def lb_laws_heldInt64SS_0 : AC := (.seq (.seq (.post (.reg [⟨(some 6), .op (.mv (.tmp 5)), none⟩,
    ⟨(some 7), .op (.mv (.tmp 0)), none⟩,
    ⟨(some 8), .op (.len false (.tmp 7)), none⟩,
    ⟨(some 9), .op (.bin .lss (.tmp 6) (.tmp 8)), none⟩]) (.kill [6, 7, 8]))
  (.cond (.tmp 9) (.ghost (.kill [9]) .skip)
  (.ghost (.kill [0, 5, 9]) (.exit 0))))
  (.seq (.block 1 (.seq (.post (.reg [⟨(some 12), .op (.mv (.tmp 0)), none⟩,
    ⟨(some 13), .op (.mv (.tmp 5)), none⟩,
    ⟨(some 14), .op (.iaddrS (.tmp 12) (.tmp 13) 1), none⟩,
    ⟨(some 15), .op (.load 1 false (.tmp 14)), none⟩,
    ⟨(some 16), .op (.mv (.tmp 1)), none⟩,
    ⟨(some 17), .call (.func i_laws_heldInt64S) [(.tmp 15), (.tmp 16)], none⟩,
    ⟨(some 1), .op (.mv (.tmp 17)), none⟩]) (.kill [12, 13, 14, 15, 16, 17]))
  (.seq (.post (.reg [⟨(some 18), .op (.mv (.tmp 1)), none⟩,
    ⟨(some 19), .op (.bin .lss (.tmp 18) (.const (Value.int .i64 0))), none⟩]) (.kill [18]))
  (.cond (.tmp 19) (.ghost (.kill [0, 1, 5, 19]) (.seq (.reg [⟨(some 4), .op (.mv (.const (Value.int .i64 (-1)))), none⟩])
  .ret))
  (.ghost (.kill [19]) .skip)))))
  (.post (.reg [⟨(some 10), .op (.mv (.tmp 5)), none⟩,
    ⟨(some 11), .op (.bin .add (.tmp 10) (.const (Value.int .i64 1))), none⟩,
    ⟨(some 5), .op (.mv (.tmp 11)), none⟩]) (.kill [10, 11]))))
def lo_laws_heldInt64SS_0 : AC := (.loop lb_laws_heldInt64SS_0)
def ac_laws_heldInt64SS : AC := (.seq (.post (.reg [⟨(some 4), .op (.mv (.const (Value.int .i64 0))), none⟩]) (.kill [4]))
  (.seq (.seq (.reg [⟨(some 5), .op (.mv (.const (Value.int .i64 0))), none⟩])
  (.block 0 lo_laws_heldInt64SS_0))
  (.ghost (.kill [0, 5]) (.seq (.post (.reg [⟨(some 20), .op (.mv (.tmp 1)), none⟩,
    ⟨(some 4), .op (.mv (.tmp 20)), none⟩]) (.kill [1, 20]))
  .ret))))
theorem cf_laws_heldInt64SS : chkFn Try.prog i_laws_heldInt64SS ac_laws_heldInt64SS [.tmp 4] 21 = true := by decide +kernel
def fa_laws_heldInt64SS : FnA := ⟨ac_laws_heldInt64SS, [.tmp 4], 21, false, true, [(.lst 1 (.lst 1 .any)), .any], .any, none⟩

/-- The checked code of laws FnExactStacksOf. -/
def ac_laws_FnExactStacksOf : AC := (.seq (.post (.reg [⟨(some 2), .op (.box true (.tmp 0)), none⟩,
    ⟨(some 4), .op (.mv (.const (Value.bool false))), none⟩]) (.kill [0, 4]))
  (.seq (.seq (.post (.reg [⟨(some 16), .op (.mv (.tmp 1)), none⟩,
    ⟨(some 17), .op (.len true (.tmp 16)), none⟩,
    ⟨(some 18), .op (.bin .gtr (.tmp 17) (.const (Value.int .i64 1048576))), none⟩]) (.kill [16, 17]))
  (.cond (.tmp 18) (.ghost (.kill [1, 2, 18]) (.seq (.reg [⟨(some 4), .op (.mv (.const (Value.bool true))), none⟩])
  .ret))
  (.ghost (.kill [18]) .skip)))
  (.seq (.reg [⟨(some 5), .op (.mv (.const (Value.int .i64 1048576))), none⟩])
  (.seq (.post (.reg [⟨(some 19), .op (.load 6 true (.tmp 2)), none⟩,
    ⟨(some 20), .op (.mv (.tmp 5)), none⟩,
    ⟨(some 21), .call (.func i_laws_szChecker) [(.tmp 19), (.tmp 20)], none⟩,
    ⟨(some 5), .op (.mv (.tmp 21)), none⟩]) (.kill [19, 20, 21]))
  (.seq (.seq (.post (.reg [⟨(some 22), .op (.mv (.tmp 5)), none⟩,
    ⟨(some 23), .op (.bin .lss (.tmp 22) (.const (Value.int .i64 0))), none⟩]) (.kill [5, 22]))
  (.cond (.tmp 23) (.ghost (.kill [1, 2, 23]) (.seq (.reg [⟨(some 4), .op (.mv (.const (Value.bool true))), none⟩])
  .ret))
  (.ghost (.kill [23]) .skip)))
  (.seq (.post (.reg [⟨(some 25), .op (.load 6 true (.tmp 2)), none⟩,
    ⟨(some 26), .call (.func i_laws_toChecker) [(.tmp 25)], none⟩,
    ⟨(some 27), .op (.mv (.tmp 1)), none⟩,
    ⟨(some 28), .call (.func i_spec_StacksOf) [(.tmp 26), (.tmp 27)], none⟩,
    ⟨(some 24), .op (.mv (.tmp 28)), none⟩,
    ⟨(some 29), .op (.ext (.tmp 24) 0), none⟩,
    ⟨(some 30), .op (.ext (.tmp 24) 1), none⟩,
    ⟨(some 6), .op (.mv (.tmp 29)), none⟩,
    ⟨(some 7), .op (.mv (.tmp 30)), none⟩]) (.kill [24, 25, 26, 27, 28, 29, 30]))
  (.seq (.post (.reg [⟨(some 31), .op (.load 6 true (.tmp 2)), none⟩,
    ⟨(some 32), .call (.func i_laws_toChecker) [(.tmp 31)], none⟩,
    ⟨(some 8), .op (.alloc (Value.agg #[Value.int .i64 0, Value.int .i64 0, Value.slice none 0 0, Value.slice none 0 0, Value.slice none 0 0, Value.slice none 0 0])), none⟩,
    ⟨none, .op (.store 6 (.tmp 8) (.tmp 32)), none⟩]) (.kill [31, 32]))
  (.seq (.post (.reg [⟨(some 34), .op (.load 6 true (.tmp 8)), none⟩,
    ⟨(some 35), .op (.mv (.tmp 1)), none⟩,
    ⟨(some 36), .call (.func i_impl_StacksOf) [(.tmp 34), (.tmp 35)], none⟩,
    ⟨(some 33), .op (.mv (.tmp 36)), none⟩,
    ⟨(some 37), .op (.ext (.tmp 33) 0), none⟩,
    ⟨(some 38), .op (.ext (.tmp 33) 1), none⟩,
    ⟨(some 9), .op (.mv (.tmp 37)), none⟩,
    ⟨(some 10), .op (.mv (.tmp 38)), none⟩]) (.kill [33, 34, 35, 36, 37, 38]))
  (.seq (.seq (.post (.reg [⟨(some 39), .op (.mv (.tmp 9)), none⟩,
    ⟨(some 40), .op (.mv (.tmp 6)), none⟩,
    ⟨(some 41), .call (.func i_laws_eqInt64SS) [(.tmp 39), (.tmp 40)], none⟩,
    ⟨(some 42), .op (.un .not (.tmp 41)), none⟩,
    ⟨(some 43), .op (.mv (.tmp 42)), none⟩,
    ⟨(some 44), .op (.mv (.tmp 10)), some (43, false)⟩,
    ⟨(some 45), .op (.mv (.tmp 7)), some (43, false)⟩,
    ⟨(some 46), .op (.bin .neq (.tmp 44) (.tmp 45)), some (43, false)⟩,
    ⟨(some 47), .op (.pick (.tmp 43) (.const (Value.bool true)) (.tmp 46)), none⟩]) (.kill [39, 40, 41, 42, 43, 44, 45, 46]))
  (.cond (.tmp 47) (.ghost (.kill [1, 2, 6, 7, 8, 9, 10, 47]) (.seq (.reg [⟨(some 4), .op (.mv (.const (Value.bool false))), none⟩])
  .ret))
  (.ghost (.kill [47]) .skip)))
  (.seq (.seq (.post (.draw [⟨0, ⟨(some 48), .op (.load 6 true (.tmp 8)), none⟩, []⟩,
    ⟨1, ⟨(some 49), .op (.load 6 true (.tmp 2)), none⟩, []⟩,
    ⟨2, ⟨(some 50), .call (.func i_laws_toChecker) [(.tmp 49)], none⟩, [0]⟩,
    ⟨3, ⟨(some 51), .call (.func i_laws_eqChecker) [(.tmp 48), (.tmp 50)], none⟩, []⟩,
    ⟨4, ⟨(some 52), .op (.un .not (.tmp 51)), none⟩, []⟩]
    [0, 0, 2, 7, 15]) (.kill [48, 49, 50, 51]))
  (.cond (.tmp 52) (.ghost (.kill [1, 2, 6, 7, 8, 9, 10, 52]) (.seq (.reg [⟨(some 4), .op (.mv (.const (Value.bool false))), none⟩])
  .ret))
  (.ghost (.kill [52]) .skip)))
  (.seq (.reg [⟨(some 11), .op (.mv (.const (Value.int .i64 1))), none⟩])
  (.seq (.post (.reg [⟨(some 53), .op (.load 6 true (.tmp 8)), none⟩,
    ⟨(some 54), .op (.mv (.tmp 11)), none⟩,
    ⟨(some 55), .call (.func i_laws_markChecker) [(.tmp 53), (.tmp 54)], none⟩,
    ⟨(some 11), .op (.mv (.tmp 55)), none⟩]) (.kill [8, 53, 54, 55]))
  (.seq (.seq (.post (.reg [⟨(some 56), .op (.mv (.tmp 11)), none⟩,
    ⟨(some 57), .op (.bin .lss (.tmp 56) (.const (Value.int .i64 0))), none⟩,
    ⟨(some 58), .op (.mv (.tmp 57)), none⟩,
    ⟨(some 59), .op (.mv (.tmp 9)), some (58, false)⟩,
    ⟨(some 60), .op (.mv (.tmp 6)), some (58, false)⟩,
    ⟨(some 61), .call (.func i_laws_eqInt64SS) [(.tmp 59), (.tmp 60)], some (58, false)⟩,
    ⟨(some 62), .op (.un .not (.tmp 61)), some (58, false)⟩,
    ⟨(some 63), .op (.pick (.tmp 58) (.const (Value.bool true)) (.tmp 62)), none⟩,
    ⟨(some 64), .op (.mv (.tmp 63)), none⟩,
    ⟨(some 65), .op (.mv (.tmp 10)), some (64, false)⟩,
    ⟨(some 66), .op (.mv (.tmp 7)), some (64, false)⟩,
    ⟨(some 67), .op (.bin .neq (.tmp 65) (.tmp 66)), some (64, false)⟩,
    ⟨(some 68), .op (.pick (.tmp 64) (.const (Value.bool true)) (.tmp 67)), none⟩]) (.kill [10, 11, 56, 57, 58, 59, 60, 61, 62, 63, 64, 65, 66, 67]))
  (.cond (.tmp 68) (.ghost (.kill [1, 2, 6, 7, 9, 68]) (.seq (.reg [⟨(some 4), .op (.mv (.const (Value.bool false))), none⟩])
  .ret))
  (.ghost (.kill [68]) .skip)))
  (.seq (.reg [⟨(some 12), .op (.mv (.const (Value.int .i64 1))), none⟩])
  (.seq (.post (.reg [⟨(some 69), .op (.mv (.tmp 9)), none⟩,
    ⟨(some 70), .op (.mv (.tmp 12)), none⟩,
    ⟨(some 71), .call (.func i_laws_markInt64SS) [(.tmp 69), (.tmp 70)], none⟩,
    ⟨(some 12), .op (.mv (.tmp 71)), none⟩]) (.kill [69, 70, 71]))
  (.seq (.reg [⟨(some 13), .op (.mv (.const (Value.int .i64 1))), none⟩])
  (.seq (.post (.reg [⟨(some 72), .op (.mv (.tmp 9)), none⟩,
    ⟨(some 73), .op (.mv (.tmp 13)), none⟩,
    ⟨(some 74), .call (.func i_laws_heldInt64SS) [(.tmp 72), (.tmp 73)], none⟩,
    ⟨(some 13), .op (.mv (.tmp 74)), none⟩]) (.kill [72, 73, 74]))
  (.seq (.seq (.post (.reg [⟨(some 75), .op (.mv (.tmp 13)), none⟩,
    ⟨(some 76), .op (.bin .lss (.tmp 75) (.const (Value.int .i64 0))), none⟩]) (.kill [75]))
  (.cond (.tmp 76) (.ghost (.kill [1, 2, 6, 7, 9, 12, 13, 76]) (.seq (.reg [⟨(some 4), .op (.mv (.const (Value.bool false))), none⟩])
  .ret))
  (.ghost (.kill [76]) .skip)))
  (.seq (.seq (.post (.reg [⟨(some 77), .op (.mv (.tmp 13)), none⟩,
    ⟨(some 78), .op (.mv (.tmp 12)), none⟩,
    ⟨(some 79), .op (.bin .neq (.tmp 77) (.tmp 78)), none⟩]) (.kill [13, 77, 78]))
  (.cond (.tmp 79) (.ghost (.kill [1, 2, 6, 7, 9, 12, 79]) (.seq (.reg [⟨(some 4), .op (.mv (.const (Value.bool false))), none⟩])
  .ret))
  (.ghost (.kill [79]) .skip)))
  (.seq (.post (.reg [⟨(some 81), .op (.load 6 true (.tmp 2)), none⟩,
    ⟨(some 82), .call (.func i_laws_toChecker) [(.tmp 81)], none⟩,
    ⟨(some 83), .op (.mv (.tmp 1)), none⟩,
    ⟨(some 84), .call (.func i_impl_StacksOf) [(.tmp 82), (.tmp 83)], none⟩,
    ⟨(some 80), .op (.mv (.tmp 84)), none⟩,
    ⟨(some 85), .op (.ext (.tmp 80) 0), none⟩,
    ⟨(some 86), .op (.ext (.tmp 80) 1), none⟩,
    ⟨(some 14), .op (.mv (.tmp 85)), none⟩,
    ⟨(some 15), .op (.mv (.tmp 86)), none⟩]) (.kill [1, 2, 80, 81, 82, 83, 84, 85, 86]))
  (.seq (.seq (.post (.reg [⟨(some 87), .op (.mv (.tmp 14)), none⟩,
    ⟨(some 88), .op (.mv (.tmp 6)), none⟩,
    ⟨(some 89), .call (.func i_laws_eqInt64SS) [(.tmp 87), (.tmp 88)], none⟩,
    ⟨(some 90), .op (.un .not (.tmp 89)), none⟩,
    ⟨(some 91), .op (.mv (.tmp 90)), none⟩,
    ⟨(some 92), .op (.mv (.tmp 15)), some (91, false)⟩,
    ⟨(some 93), .op (.mv (.tmp 7)), some (91, false)⟩,
    ⟨(some 94), .op (.bin .neq (.tmp 92) (.tmp 93)), some (91, false)⟩,
    ⟨(some 95), .op (.pick (.tmp 91) (.const (Value.bool true)) (.tmp 94)), none⟩]) (.kill [6, 7, 14, 15, 87, 88, 89, 90, 91, 92, 93, 94]))
  (.cond (.tmp 95) (.ghost (.kill [9, 12, 95]) (.seq (.reg [⟨(some 4), .op (.mv (.const (Value.bool false))), none⟩])
  .ret))
  (.ghost (.kill [95]) .skip)))
  (.seq (.reg [⟨(some 13), .op (.mv (.const (Value.int .i64 1))), none⟩])
  (.seq (.post (.reg [⟨(some 96), .op (.mv (.tmp 9)), none⟩,
    ⟨(some 97), .op (.mv (.tmp 13)), none⟩,
    ⟨(some 98), .call (.func i_laws_heldInt64SS) [(.tmp 96), (.tmp 97)], none⟩,
    ⟨(some 13), .op (.mv (.tmp 98)), none⟩]) (.kill [9, 96, 97, 98]))
  (.seq (.seq (.post (.reg [⟨(some 99), .op (.mv (.tmp 13)), none⟩,
    ⟨(some 100), .op (.bin .lss (.tmp 99) (.const (Value.int .i64 0))), none⟩]) (.kill [99]))
  (.cond (.tmp 100) (.ghost (.kill [12, 13, 100]) (.seq (.reg [⟨(some 4), .op (.mv (.const (Value.bool false))), none⟩])
  .ret))
  (.ghost (.kill [100]) .skip)))
  (.seq (.seq (.post (.reg [⟨(some 101), .op (.mv (.tmp 13)), none⟩,
    ⟨(some 102), .op (.mv (.tmp 12)), none⟩,
    ⟨(some 103), .op (.bin .neq (.tmp 101) (.tmp 102)), none⟩]) (.kill [12, 13, 101, 102]))
  (.cond (.tmp 103) (.ghost (.kill [103]) (.seq (.reg [⟨(some 4), .op (.mv (.const (Value.bool false))), none⟩])
  .ret))
  (.ghost (.kill [103]) .skip)))
  (.seq (.reg [⟨(some 4), .op (.mv (.const (Value.bool true))), none⟩])
  .ret))))))))))))))))))))))))))
theorem cf_laws_FnExactStacksOf : chkFn Try.prog i_laws_FnExactStacksOf ac_laws_FnExactStacksOf [.tmp 4] 104 = true := by decide +kernel
def fa_laws_FnExactStacksOf : FnA := ⟨ac_laws_FnExactStacksOf, [.tmp 4], 104, false, true, [], .any, none⟩

/-- The checked code of spec GoOn. -/
def ac_spec_GoOn : AC := (.seq (.post (.reg [⟨(some 4), .op (.box true (.tmp 0)), none⟩,
    ⟨(some 8), .op (.mv (.const (Value.int .i64 0))), none⟩,
    ⟨(some 9), .op (.mv (.const (Value.slice none 0 0))), none⟩,
    ⟨(some 10), .op (.mv (.const (Value.int .i64 0))), none⟩]) (.kill [0, 8, 9, 10]))
  (.seq (.seq (.post (.reg [⟨(some 14), .op (.mv (.tmp 3)), none⟩,
    ⟨(some 15), .call (.func i_spec_l02Given) [(.tmp 4), (.tmp 14)], none⟩,
    ⟨(some 11), .op (.mv (.tmp 15)), none⟩]) (.kill [14, 15]))
  (.seq (.post (.reg [⟨(some 16), .op (.mv (.tmp 11)), none⟩,
    ⟨(some 17), .op (.bin .neq (.tmp 16) (.const (Value.int .i64 0))), none⟩]) (.kill [16]))
  (.cond (.tmp 17) (.ghost (.kill [1, 2, 3, 4, 17]) (.seq (.post (.reg [⟨(some 18), .op (.lits true 1 0 (Value.int .i64 0) []), none⟩,
    ⟨(some 19), .op (.mv (.tmp 11)), none⟩,
    ⟨(some 8), .op (.mv (.const (Value.int .i64 0))), none⟩,
    ⟨(some 9), .op (.mv (.tmp 18)), none⟩,
    ⟨(some 10), .op (.mv (.tmp 19)), none⟩]) (.kill [11, 18, 19]))
  .ret))
  (.ghost (.kill [11, 17]) .skip))))
  (.seq (.seq (.post (.reg [⟨(some 20), .op (.mv (.tmp 1)), none⟩,
    ⟨(some 21), .op (.faddr (.tmp 4) 2), none⟩,
    ⟨(some 22), .op (.load 1 false (.tmp 21)), none⟩,
    ⟨(some 23), .op (.len false (.tmp 22)), none⟩,
    ⟨(some 24), .op (.bin .sub (.tmp 23) (.const (Value.int .i64 1))), none⟩,
    ⟨(some 25), .call (.func i_spec_l00In) [(.tmp 20), (.const (Value.int .i64 0)), (.tmp 24)], none⟩,
    ⟨(some 26), .op (.un .not (.tmp 25)), none⟩,
    ⟨(some 27), .op (.mv (.tmp 26)), none⟩,
    ⟨(some 28), .op (.mv (.tmp 2)), some (27, false)⟩,
    ⟨(some 29), .op (.len false (.tmp 28)), some (27, false)⟩,
    ⟨(some 30), .op (.bin .gtr (.tmp 29) (.const (Value.int .i64 60))), some (27, false)⟩,
    ⟨(some 31), .op (.pick (.tmp 27) (.const (Value.bool true)) (.tmp 30)), none⟩,
    ⟨(some 32), .op (.mv (.tmp 31)), none⟩,
    ⟨(some 33), .op (.mv (.tmp 2)), some (32, false)⟩,
    ⟨(some 34), .op (.mv (.tmp 2)), some (32, false)⟩,
    ⟨(some 35), .op (.len false (.tmp 34)), some (32, false)⟩,
    ⟨(some 36), .op (.faddr (.tmp 4) 0), some (32, false)⟩,
    ⟨(some 37), .op (.load 1 false (.tmp 36)), some (32, false)⟩,
    ⟨(some 38), .call (.func i_spec_l02List) [(.tmp 33), (.tmp 35), (.tmp 37)], some (32, false)⟩,
    ⟨(some 39), .op (.un .not (.tmp 38)), some (32, false)⟩,
    ⟨(some 40), .op (.pick (.tmp 32) (.const (Value.bool true)) (.tmp 39)), none⟩]) (.kill [20, 21, 22, 23, 24, 25, 26, 27, 28, 29, 30, 31, 32, 33, 34, 35, 36, 37, 38, 39]))
  (.cond (.tmp 40) (.ghost (.kill [1, 2, 3, 4, 40]) (.seq (.post (.reg [⟨(some 41), .op (.lits true 1 0 (Value.int .i64 0) []), none⟩,
    ⟨(some 8), .op (.mv (.const (Value.int .i64 0))), none⟩,
    ⟨(some 9), .op (.mv (.tmp 41)), none⟩,
    ⟨(some 10), .op (.mv (.const (Value.int .i64 2))), none⟩]) (.kill [41]))
  .ret))
  (.ghost (.kill [40]) .skip)))
  (.seq (.post (.reg [⟨(some 43), .op (.mv (.tmp 1)), none⟩,
    ⟨(some 44), .op (.mv (.tmp 2)), none⟩,
    ⟨(some 45), .call (.func i_spec_l00Own) [(.tmp 44)] true, none⟩,
    ⟨(some 46), .op (.mv (.tmp 3)), none⟩,
    ⟨(some 47), .call (.func i_spec_l02Go) [(.tmp 4), (.tmp 43), (.tmp 45), (.tmp 46)], none⟩,
    ⟨(some 42), .op (.mv (.tmp 47)), none⟩,
    ⟨(some 48), .op (.ext (.tmp 42) 0), none⟩,
    ⟨(some 49), .op (.ext (.tmp 42) 1), none⟩,
    ⟨(some 12), .op (.mv (.tmp 48)), none⟩,
    ⟨(some 13), .op (.mv (.tmp 49)), none⟩]) (.kill [1, 2, 3, 4, 42, 43, 44, 45, 46, 47, 48, 49]))
  (.seq (.post (.reg [⟨(some 50), .op (.mv (.tmp 12)), none⟩,
    ⟨(some 51), .op (.mv (.tmp 13)), none⟩,
    ⟨(some 8), .op (.mv (.tmp 50)), none⟩,
    ⟨(some 9), .op (.mv (.tmp 51)), none⟩,
    ⟨(some 10), .op (.mv (.const (Value.int .i64 0))), none⟩]) (.kill [12, 13, 50, 51]))
  .ret)))))
theorem cf_spec_GoOn : chkFn Try.prog i_spec_GoOn ac_spec_GoOn [.tmp 8, .tmp 9, .tmp 10] 52 = true := by decide +kernel
def fa_spec_GoOn : FnA := ⟨ac_spec_GoOn, [.tmp 8, .tmp 9, .tmp 10], 52, false, false, [(.agg [.any, .any, (.lst 1 .any), (.lst 1 (.lst 2 .any)), (.lst 1 (.lst 1 (.lst 1 .any))), (.lst 1 (.lst 1 .any))]), .any, (.lst 1 .any), .any], .any, none⟩

/-- The checked code of impl GoOn 1. -/
def ac_impl_GoOn_1 : AC := (.seq (.post (.reg [⟨(some 3), .op (.mv (.const (Value.bool false))), none⟩]) (.kill [3]))
  (.seq (.post (.reg [⟨(some 4), .op (.load 6 true (.tmp 1)), none⟩,
    ⟨(some 5), .op (.mv (.tmp 0)), none⟩,
    ⟨(some 6), .call (.func i_impl_Checker_isMark) [(.tmp 4), (.tmp 5)], none⟩,
    ⟨(some 7), .op (.un .not (.tmp 6)), none⟩,
    ⟨(some 3), .op (.mv (.tmp 7)), none⟩]) (.kill [0, 1, 4, 5, 6, 7]))
  .ret))
theorem cf_impl_GoOn_1 : chkFn Try.prog i_impl_GoOn_1 ac_impl_GoOn_1 [.tmp 3] 8 = true := by decide +kernel
def fa_impl_GoOn_1 : FnA := ⟨ac_impl_GoOn_1, [.tmp 3], 8, false, true, [], .any, none⟩

/-- The checked code of impl GoOn. -/
def ac_impl_GoOn : AC := (.seq (.post (.reg [⟨(some 4), .op (.box true (.tmp 0)), none⟩,
    ⟨(some 8), .op (.mv (.const (Value.int .i64 0))), none⟩,
    ⟨(some 9), .op (.mv (.const (Value.slice none 0 0))), none⟩,
    ⟨(some 10), .op (.mv (.const (Value.int .i64 0))), none⟩]) (.kill [0, 8, 9, 10]))
  (.seq (.block 0 (.seq (.post (.reg [⟨(some 14), .op (.load 6 true (.tmp 4)), none⟩,
    ⟨(some 15), .call (.func i_impl_ValidChecker) [(.tmp 14)], none⟩,
    ⟨(some 16), .op (.un .not (.tmp 15)), none⟩,
    ⟨(some 17), .op (.mv (.tmp 16)), none⟩,
    ⟨(some 18), .op (.mv (.tmp 3)), some (17, false)⟩,
    ⟨(some 19), .call (.func i_impl_ValidWord) [(.tmp 18)], some (17, false)⟩,
    ⟨(some 20), .op (.un .not (.tmp 19)), some (17, false)⟩,
    ⟨(some 21), .op (.pick (.tmp 17) (.const (Value.bool true)) (.tmp 20)), none⟩,
    ⟨(some 13), .op (.mv (.tmp 21)), none⟩]) (.kill [14, 15, 16, 17, 18, 19, 20, 21]))
  (.cond (.tmp 13) (.ghost (.kill [1, 2, 3, 4, 13]) (.seq (.reg [⟨(some 8), .op (.mv (.const (Value.int .i64 0))), none⟩,
    ⟨(some 9), .op (.mv (.const (Value.slice none 0 0))), none⟩,
    ⟨(some 10), .op (.mv (.const (Value.int .i64 1))), none⟩])
  .ret))
  (.ghost (.kill [13]) (.seq (.post (.reg [⟨(some 23), .op (.load 6 true (.tmp 4)), none⟩,
    ⟨(some 24), .op (.mv (.tmp 1)), none⟩,
    ⟨(some 25), .call (.func i_impl_Checker_isState) [(.tmp 23), (.tmp 24)], none⟩,
    ⟨(some 26), .op (.un .not (.tmp 25)), none⟩,
    ⟨(some 27), .op (.mv (.tmp 26)), none⟩,
    ⟨(some 28), .op (.mv (.tmp 2)), some (27, false)⟩,
    ⟨(some 29), .op (.len false (.tmp 28)), some (27, false)⟩,
    ⟨(some 30), .op (.bin .gtr (.tmp 29) (.const (Value.int .i64 60))), some (27, false)⟩,
    ⟨(some 31), .op (.pick (.tmp 27) (.const (Value.bool true)) (.tmp 30)), none⟩,
    ⟨(some 32), .op (.mv (.tmp 31)), none⟩,
    ⟨(some 33), .op (.mv (.tmp 2)), some (32, false)⟩,
    ⟨(some 34), .op (.mkfn i_impl_GoOn_1 [(.tmp 4)]), some (32, false)⟩,
    ⟨(some 35), .call (.func i_slices_ContainsFunc_L_int64) [(.tmp 33), (.tmp 34)], some (32, false)⟩,
    ⟨(some 36), .op (.pick (.tmp 32) (.const (Value.bool true)) (.tmp 35)), none⟩,
    ⟨(some 22), .op (.mv (.tmp 36)), none⟩]) (.kill [23, 24, 25, 26, 27, 28, 29, 30, 31, 32, 33, 34, 35, 36]))
  (.cond (.tmp 22) (.ghost (.kill [1, 2, 3, 4, 22]) (.seq (.reg [⟨(some 8), .op (.mv (.const (Value.int .i64 0))), none⟩,
    ⟨(some 9), .op (.mv (.const (Value.slice none 0 0))), none⟩,
    ⟨(some 10), .op (.mv (.const (Value.int .i64 2))), none⟩])
  .ret))
  (.ghost (.kill [22]) .skip)))))))
  (.seq (.post (.reg [⟨(some 38), .op (.load 6 true (.tmp 4)), none⟩,
    ⟨(some 39), .op (.mv (.tmp 1)), none⟩,
    ⟨(some 40), .op (.mv (.tmp 2)), none⟩,
    ⟨(some 41), .op (.mv (.tmp 3)), none⟩,
    ⟨(some 42), .call (.func i_impl_Checker_end) [(.tmp 38), (.tmp 39), (.tmp 40), (.tmp 41)], none⟩,
    ⟨(some 37), .op (.mv (.tmp 42)), none⟩,
    ⟨(some 43), .op (.ext (.tmp 37) 0), none⟩,
    ⟨(some 44), .op (.ext (.tmp 37) 1), none⟩,
    ⟨(some 11), .op (.mv (.tmp 43)), none⟩,
    ⟨(some 12), .op (.mv (.tmp 44)), none⟩]) (.kill [1, 2, 3, 4, 37, 38, 39, 40, 41, 42, 43, 44]))
  (.seq (.post (.reg [⟨(some 45), .op (.mv (.tmp 11)), none⟩,
    ⟨(some 46), .op (.mv (.tmp 12)), none⟩,
    ⟨(some 47), .call (.func i_slices_Clone_L_int64) [(.tmp 46)], none⟩,
    ⟨(some 8), .op (.mv (.tmp 45)), none⟩,
    ⟨(some 9), .op (.mv (.tmp 47)), none⟩,
    ⟨(some 10), .op (.mv (.const (Value.int .i64 0))), none⟩]) (.kill [11, 12, 45, 46, 47]))
  .ret))))
theorem cf_impl_GoOn : chkFn Try.prog i_impl_GoOn ac_impl_GoOn [.tmp 8, .tmp 9, .tmp 10] 48 = true := by decide +kernel
def fa_impl_GoOn : FnA := ⟨ac_impl_GoOn, [.tmp 8, .tmp 9, .tmp 10], 48, false, false, [(.agg [.any, .any, (.lst 1 .any), (.lst 1 (.lst 2 .any)), (.lst 1 (.lst 1 (.lst 1 .any))), (.lst 1 (.lst 1 .any))]), .any, (.lst 1 .any), .any], .any, none⟩

/-- The checked code of laws FnExactGoOn. -/
def ac_laws_FnExactGoOn : AC := (.seq (.post (.reg [⟨(some 4), .op (.box true (.tmp 0)), none⟩,
    ⟨(some 8), .op (.mv (.const (Value.bool false))), none⟩]) (.kill [0, 8]))
  (.seq (.seq (.post (.reg [⟨(some 24), .op (.mv (.tmp 2)), none⟩,
    ⟨(some 25), .op (.len false (.tmp 24)), none⟩,
    ⟨(some 26), .op (.bin .gtr (.tmp 25) (.const (Value.int .i64 1048576))), none⟩]) (.kill [24, 25]))
  (.cond (.tmp 26) (.ghost (.kill [1, 2, 3, 4, 26]) (.seq (.reg [⟨(some 8), .op (.mv (.const (Value.bool true))), none⟩])
  .ret))
  (.ghost (.kill [26]) .skip)))
  (.seq (.seq (.post (.reg [⟨(some 27), .op (.mv (.tmp 3)), none⟩,
    ⟨(some 28), .op (.len true (.tmp 27)), none⟩,
    ⟨(some 29), .op (.bin .gtr (.tmp 28) (.const (Value.int .i64 1048576))), none⟩]) (.kill [27, 28]))
  (.cond (.tmp 29) (.ghost (.kill [1, 2, 3, 4, 29]) (.seq (.reg [⟨(some 8), .op (.mv (.const (Value.bool true))), none⟩])
  .ret))
  (.ghost (.kill [29]) .skip)))
  (.seq (.reg [⟨(some 9), .op (.mv (.const (Value.int .i64 1048576))), none⟩])
  (.seq (.post (.reg [⟨(some 30), .op (.load 6 true (.tmp 4)), none⟩,
    ⟨(some 31), .op (.mv (.tmp 9)), none⟩,
    ⟨(some 32), .call (.func i_laws_szChecker) [(.tmp 30), (.tmp 31)], none⟩,
    ⟨(some 9), .op (.mv (.tmp 32)), none⟩]) (.kill [30, 31, 32]))
  (.seq (.seq (.post (.reg [⟨(some 33), .op (.mv (.tmp 9)), none⟩,
    ⟨(some 34), .op (.bin .lss (.tmp 33) (.const (Value.int .i64 0))), none⟩]) (.kill [9, 33]))
  (.cond (.tmp 34) (.ghost (.kill [1, 2, 3, 4, 34]) (.seq (.reg [⟨(some 8), .op (.mv (.const (Value.bool true))), none⟩])
  .ret))
  (.ghost (.kill [34]) .skip)))
  (.seq (.post (.reg [⟨(some 36), .op (.load 6 true (.tmp 4)), none⟩,
    ⟨(some 37), .call (.func i_laws_toChecker) [(.tmp 36)] true, none⟩,
    ⟨(some 38), .op (.mv (.tmp 1)), none⟩,
    ⟨(some 39), .op (.mv (.tmp 2)), none⟩,
    ⟨(some 40), .call (.func i_laws_toInt64S) [(.tmp 39)] true, none⟩,
    ⟨(some 41), .op (.mv (.tmp 3)), none⟩,
    ⟨(some 42), .call (.func i_spec_GoOn) [(.tmp 37), (.tmp 38), (.tmp 40), (.tmp 41)], none⟩,
    ⟨(some 35), .op (.mv (.tmp 42)), none⟩,
    ⟨(some 43), .op (.ext (.tmp 35) 0), none⟩,
    ⟨(some 44), .op (.ext (.tmp 35) 1), none⟩,
    ⟨(some 45), .op (.ext (.tmp 35) 2), none⟩,
    ⟨(some 10), .op (.mv (.tmp 43)), none⟩,
    ⟨(some 11), .op (.mv (.tmp 44)), none⟩,
    ⟨(some 12), .op (.mv (.tmp 45)), none⟩]) (.kill [35, 36, 37, 38, 39, 40, 41, 42, 43, 44, 45]))
  (.seq (.post (.reg [⟨(some 46), .op (.load 6 true (.tmp 4)), none⟩,
    ⟨(some 47), .call (.func i_laws_toChecker) [(.tmp 46)], none⟩,
    ⟨(some 13), .op (.alloc (Value.agg #[Value.int .i64 0, Value.int .i64 0, Value.slice none 0 0, Value.slice none 0 0, Value.slice none 0 0, Value.slice none 0 0])), none⟩,
    ⟨none, .op (.store 6 (.tmp 13) (.tmp 47)), none⟩]) (.kill [46, 47]))
  (.seq (.post (.reg [⟨(some 48), .op (.mv (.tmp 2)), none⟩,
    ⟨(some 49), .call (.func i_laws_toInt64S) [(.tmp 48)], none⟩,
    ⟨(some 14), .op (.mv (.tmp 49)), none⟩]) (.kill [48, 49]))
  (.seq (.post (.reg [⟨(some 51), .op (.load 6 true (.tmp 13)), none⟩,
    ⟨(some 52), .op (.mv (.tmp 1)), none⟩,
    ⟨(some 53), .op (.mv (.tmp 14)), none⟩,
    ⟨(some 54), .op (.mv (.tmp 3)), none⟩,
    ⟨(some 55), .call (.func i_impl_GoOn) [(.tmp 51), (.tmp 52), (.tmp 53), (.tmp 54)], none⟩,
    ⟨(some 50), .op (.mv (.tmp 55)), none⟩,
    ⟨(some 56), .op (.ext (.tmp 50) 0), none⟩,
    ⟨(some 57), .op (.ext (.tmp 50) 1), none⟩,
    ⟨(some 58), .op (.ext (.tmp 50) 2), none⟩,
    ⟨(some 15), .op (.mv (.tmp 56)), none⟩,
    ⟨(some 16), .op (.mv (.tmp 57)), none⟩,
    ⟨(some 17), .op (.mv (.tmp 58)), none⟩]) (.kill [50, 51, 52, 53, 54, 55, 56, 57, 58]))
  (.seq (.seq (.post (.reg [⟨(some 59), .op (.mv (.tmp 15)), none⟩,
    ⟨(some 60), .op (.mv (.tmp 10)), none⟩,
    ⟨(some 61), .op (.bin .neq (.tmp 59) (.tmp 60)), none⟩,
    ⟨(some 62), .op (.mv (.tmp 61)), none⟩,
    ⟨(some 63), .op (.mv (.tmp 16)), some (62, false)⟩,
    ⟨(some 64), .op (.mv (.tmp 11)), some (62, false)⟩,
    ⟨(some 65), .call (.func i_laws_eqInt64S) [(.tmp 63), (.tmp 64)], some (62, false)⟩,
    ⟨(some 66), .op (.un .not (.tmp 65)), some (62, false)⟩,
    ⟨(some 67), .op (.pick (.tmp 62) (.const (Value.bool true)) (.tmp 66)), none⟩,
    ⟨(some 68), .op (.mv (.tmp 67)), none⟩,
    ⟨(some 69), .op (.mv (.tmp 17)), some (68, false)⟩,
    ⟨(some 70), .op (.mv (.tmp 12)), some (68, false)⟩,
    ⟨(some 71), .op (.bin .neq (.tmp 69) (.tmp 70)), some (68, false)⟩,
    ⟨(some 72), .op (.pick (.tmp 68) (.const (Value.bool true)) (.tmp 71)), none⟩]) (.kill [59, 60, 61, 62, 63, 64, 65, 66, 67, 68, 69, 70, 71]))
  (.cond (.tmp 72) (.ghost (.kill [1, 2, 3, 4, 10, 11, 12, 13, 14, 15, 16, 17, 72]) (.seq (.reg [⟨(some 8), .op (.mv (.const (Value.bool false))), none⟩])
  .ret))
  (.ghost (.kill [72]) .skip)))
  (.seq (.seq (.post (.draw [⟨0, ⟨(some 73), .op (.load 6 true (.tmp 13)), none⟩, []⟩,
    ⟨1, ⟨(some 74), .op (.load 6 true (.tmp 4)), none⟩, []⟩,
    ⟨2, ⟨(some 75), .call (.func i_laws_toChecker) [(.tmp 74)], none⟩, [0]⟩,
    ⟨3, ⟨(some 76), .call (.func i_laws_eqChecker) [(.tmp 73), (.tmp 75)], none⟩, []⟩,
    ⟨4, ⟨(some 77), .op (.un .not (.tmp 76)), none⟩, []⟩]
    [0, 0, 2, 7, 15]) (.kill [73, 74, 75, 76]))
  (.cond (.tmp 77) (.ghost (.kill [1, 2, 3, 4, 10, 11, 12, 13, 14, 15, 16, 17, 77]) (.seq (.reg [⟨(some 8), .op (.mv (.const (Value.bool false))), none⟩])
  .ret))
  (.ghost (.kill [77]) .skip)))
  (.seq (.seq (.post (.reg [⟨(some 78), .op (.mv (.tmp 14)), none⟩,
    ⟨(some 79), .op (.mv (.tmp 2)), none⟩,
    ⟨(some 80), .call (.func i_laws_toInt64S) [(.tmp 79)], none⟩,
    ⟨(some 81), .call (.func i_laws_eqInt64S) [(.tmp 78), (.tmp 80)], none⟩,
    ⟨(some 82), .op (.un .not (.tmp 81)), none⟩]) (.kill [78, 79, 80, 81]))
  (.cond (.tmp 82) (.ghost (.kill [1, 2, 3, 4, 10, 11, 12, 13, 14, 15, 16, 17, 82]) (.seq (.reg [⟨(some 8), .op (.mv (.const (Value.bool false))), none⟩])
  .ret))
  (.ghost (.kill [82]) .skip)))
  (.seq (.reg [⟨(some 18), .op (.mv (.const (Value.int .i64 1))), none⟩])
  (.seq (.post (.reg [⟨(some 83), .op (.load 6 true (.tmp 13)), none⟩,
    ⟨(some 84), .op (.mv (.tmp 18)), none⟩,
    ⟨(some 85), .call (.func i_laws_markChecker) [(.tmp 83), (.tmp 84)], none⟩,
    ⟨(some 18), .op (.mv (.tmp 85)), none⟩]) (.kill [13, 83, 84, 85]))
  (.seq (.post (.reg [⟨(some 86), .op (.mv (.tmp 14)), none⟩,
    ⟨(some 87), .op (.mv (.tmp 18)), none⟩,
    ⟨(some 88), .call (.func i_laws_markInt64S) [(.tmp 86), (.tmp 87)], none⟩,
    ⟨(some 18), .op (.mv (.tmp 88)), none⟩]) (.kill [14, 86, 87, 88]))
  (.seq (.seq (.post (.reg [⟨(some 89), .op (.mv (.tmp 18)), none⟩,
    ⟨(some 90), .op (.bin .lss (.tmp 89) (.const (Value.int .i64 0))), none⟩,
    ⟨(some 91), .op (.mv (.tmp 90)), none⟩,
    ⟨(some 92), .op (.mv (.tmp 15)), some (91, false)⟩,
    ⟨(some 93), .op (.mv (.tmp 10)), some (91, false)⟩,
    ⟨(some 94), .op (.bin .neq (.tmp 92) (.tmp 93)), some (91, false)⟩,
    ⟨(some 95), .op (.pick (.tmp 91) (.const (Value.bool true)) (.tmp 94)), none⟩,
    ⟨(some 96), .op (.mv (.tmp 95)), none⟩,
    ⟨(some 97), .op (.mv (.tmp 16)), some (96, false)⟩,
    ⟨(some 98), .op (.mv (.tmp 11)), some (96, false)⟩,
    ⟨(some 99), .call (.func i_laws_eqInt64S) [(.tmp 97), (.tmp 98)], some (96, false)⟩,
    ⟨(some 100), .op (.un .not (.tmp 99)), some (96, false)⟩,
    ⟨(some 101), .op (.pick (.tmp 96) (.const (Value.bool true)) (.tmp 100)), none⟩,
    ⟨(some 102), .op (.mv (.tmp 101)), none⟩,
    ⟨(some 103), .op (.mv (.tmp 17)), some (102, false)⟩,
    ⟨(some 104), .op (.mv (.tmp 12)), some (102, false)⟩,
    ⟨(some 105), .op (.bin .neq (.tmp 103) (.tmp 104)), some (102, false)⟩,
    ⟨(some 106), .op (.pick (.tmp 102) (.const (Value.bool true)) (.tmp 105)), none⟩]) (.kill [15, 17, 18, 89, 90, 91, 92, 93, 94, 95, 96, 97, 98, 99, 100, 101, 102, 103, 104, 105]))
  (.cond (.tmp 106) (.ghost (.kill [1, 2, 3, 4, 10, 11, 12, 16, 106]) (.seq (.reg [⟨(some 8), .op (.mv (.const (Value.bool false))), none⟩])
  .ret))
  (.ghost (.kill [106]) .skip)))
  (.seq (.reg [⟨(some 19), .op (.mv (.const (Value.int .i64 1))), none⟩])
  (.seq (.post (.reg [⟨(some 107), .op (.mv (.tmp 16)), none⟩,
    ⟨(some 108), .op (.mv (.tmp 19)), none⟩,
    ⟨(some 109), .call (.func i_laws_markInt64S) [(.tmp 107), (.tmp 108)], none⟩,
    ⟨(some 19), .op (.mv (.tmp 109)), none⟩]) (.kill [107, 108, 109]))
  (.seq (.reg [⟨(some 20), .op (.mv (.const (Value.int .i64 1))), none⟩])
  (.seq (.post (.reg [⟨(some 110), .op (.mv (.tmp 16)), none⟩,
    ⟨(some 111), .op (.mv (.tmp 20)), none⟩,
    ⟨(some 112), .call (.func i_laws_heldInt64S) [(.tmp 110), (.tmp 111)], none⟩,
    ⟨(some 20), .op (.mv (.tmp 112)), none⟩]) (.kill [110, 111, 112]))
  (.seq (.seq (.post (.reg [⟨(some 113), .op (.mv (.tmp 20)), none⟩,
    ⟨(some 114), .op (.bin .lss (.tmp 113) (.const (Value.int .i64 0))), none⟩]) (.kill [113]))
  (.cond (.tmp 114) (.ghost (.kill [1, 2, 3, 4, 10, 11, 12, 16, 19, 20, 114]) (.seq (.reg [⟨(some 8), .op (.mv (.const (Value.bool false))), none⟩])
  .ret))
  (.ghost (.kill [114]) .skip)))
  (.seq (.seq (.post (.reg [⟨(some 115), .op (.mv (.tmp 20)), none⟩,
    ⟨(some 116), .op (.mv (.tmp 19)), none⟩,
    ⟨(some 117), .op (.bin .neq (.tmp 115) (.tmp 116)), none⟩]) (.kill [20, 115, 116]))
  (.cond (.tmp 117) (.ghost (.kill [1, 2, 3, 4, 10, 11, 12, 16, 19, 117]) (.seq (.reg [⟨(some 8), .op (.mv (.const (Value.bool false))), none⟩])
  .ret))
  (.ghost (.kill [117]) .skip)))
  (.seq (.post (.reg [⟨(some 119), .op (.load 6 true (.tmp 4)), none⟩,
    ⟨(some 120), .call (.func i_laws_toChecker) [(.tmp 119)], none⟩,
    ⟨(some 121), .op (.mv (.tmp 1)), none⟩,
    ⟨(some 122), .op (.mv (.tmp 2)), none⟩,
    ⟨(some 123), .call (.func i_laws_toInt64S) [(.tmp 122)], none⟩,
    ⟨(some 124), .op (.mv (.tmp 3)), none⟩,
    ⟨(some 125), .call (.func i_impl_GoOn) [(.tmp 120), (.tmp 121), (.tmp 123), (.tmp 124)], none⟩,
    ⟨(some 118), .op (.mv (.tmp 125)), none⟩,
    ⟨(some 126), .op (.ext (.tmp 118) 0), none⟩,
    ⟨(some 127), .op (.ext (.tmp 118) 1), none⟩,
    ⟨(some 128), .op (.ext (.tmp 118) 2), none⟩,
    ⟨(some 21), .op (.mv (.tmp 126)), none⟩,
    ⟨(some 22), .op (.mv (.tmp 127)), none⟩,
    ⟨(some 23), .op (.mv (.tmp 128)), none⟩]) (.kill [1, 2, 3, 4, 118, 119, 120, 121, 122, 123, 124, 125, 126, 127, 128]))
  (.seq (.seq (.post (.reg [⟨(some 129), .op (.mv (.tmp 21)), none⟩,
    ⟨(some 130), .op (.mv (.tmp 10)), none⟩,
    ⟨(some 131), .op (.bin .neq (.tmp 129) (.tmp 130)), none⟩,
    ⟨(some 132), .op (.mv (.tmp 131)), none⟩,
    ⟨(some 133), .op (.mv (.tmp 22)), some (132, false)⟩,
    ⟨(some 134), .op (.mv (.tmp 11)), some (132, false)⟩,
    ⟨(some 135), .call (.func i_laws_eqInt64S) [(.tmp 133), (.tmp 134)], some (132, false)⟩,
    ⟨(some 136), .op (.un .not (.tmp 135)), some (132, false)⟩,
    ⟨(some 137), .op (.pick (.tmp 132) (.const (Value.bool true)) (.tmp 136)), none⟩,
    ⟨(some 138), .op (.mv (.tmp 137)), none⟩,
    ⟨(some 139), .op (.mv (.tmp 23)), some (138, false)⟩,
    ⟨(some 140), .op (.mv (.tmp 12)), some (138, false)⟩,
    ⟨(some 141), .op (.bin .neq (.tmp 139) (.tmp 140)), some (138, false)⟩,
    ⟨(some 142), .op (.pick (.tmp 138) (.const (Value.bool true)) (.tmp 141)), none⟩]) (.kill [10, 11, 12, 21, 22, 23, 129, 130, 131, 132, 133, 134, 135, 136, 137, 138, 139, 140, 141]))
  (.cond (.tmp 142) (.ghost (.kill [16, 19, 142]) (.seq (.reg [⟨(some 8), .op (.mv (.const (Value.bool false))), none⟩])
  .ret))
  (.ghost (.kill [142]) .skip)))
  (.seq (.reg [⟨(some 20), .op (.mv (.const (Value.int .i64 1))), none⟩])
  (.seq (.post (.reg [⟨(some 143), .op (.mv (.tmp 16)), none⟩,
    ⟨(some 144), .op (.mv (.tmp 20)), none⟩,
    ⟨(some 145), .call (.func i_laws_heldInt64S) [(.tmp 143), (.tmp 144)], none⟩,
    ⟨(some 20), .op (.mv (.tmp 145)), none⟩]) (.kill [16, 143, 144, 145]))
  (.seq (.seq (.post (.reg [⟨(some 146), .op (.mv (.tmp 20)), none⟩,
    ⟨(some 147), .op (.bin .lss (.tmp 146) (.const (Value.int .i64 0))), none⟩]) (.kill [146]))
  (.cond (.tmp 147) (.ghost (.kill [19, 20, 147]) (.seq (.reg [⟨(some 8), .op (.mv (.const (Value.bool false))), none⟩])
  .ret))
  (.ghost (.kill [147]) .skip)))
  (.seq (.seq (.post (.reg [⟨(some 148), .op (.mv (.tmp 20)), none⟩,
    ⟨(some 149), .op (.mv (.tmp 19)), none⟩,
    ⟨(some 150), .op (.bin .neq (.tmp 148) (.tmp 149)), none⟩]) (.kill [19, 20, 148, 149]))
  (.cond (.tmp 150) (.ghost (.kill [150]) (.seq (.reg [⟨(some 8), .op (.mv (.const (Value.bool false))), none⟩])
  .ret))
  (.ghost (.kill [150]) .skip)))
  (.seq (.reg [⟨(some 8), .op (.mv (.const (Value.bool true))), none⟩])
  .ret))))))))))))))))))))))))))))))
theorem cf_laws_FnExactGoOn : chkFn Try.prog i_laws_FnExactGoOn ac_laws_FnExactGoOn [.tmp 8] 151 = true := by decide +kernel
def fa_laws_FnExactGoOn : FnA := ⟨ac_laws_FnExactGoOn, [.tmp 8], 151, false, true, [], .any, none⟩

end Go.Proofs.Ytegjfjckijmgcaa
