/- The code of the functions, checked against the loaded program; printed by a program (gen2.py). -/
import Derived.Test.YtoliadfdklfmfaaProg
import Derived.Test.YtoliadfdklfmfaaAw25
import Derived.Test.YtoliadfdklfmfaaG0
set_option linter.unusedVariables false
set_option maxRecDepth 100000
namespace Go.Proofs.Ytoliadfdklfmfaa
open Aw

/-- The checked code of laws FnExactTrimChecker. -/
def ac_laws_FnExactTrimChecker : AC := (.seq (.post (.reg [⟨(some 1), .op (.box true (.tmp 0)), none⟩,
    ⟨(some 2), .op (.mv (.const (Value.bool false))), none⟩]) (.kill [0, 2]))
  (.seq (.reg [⟨(some 3), .op (.mv (.const (Value.int .i64 1048576))), none⟩])
  (.seq (.post (.reg [⟨(some 14), .op (.load 6 true (.tmp 1)), none⟩,
    ⟨(some 15), .op (.mv (.tmp 3)), none⟩,
    ⟨(some 16), .call (.func i_laws_szChecker) [(.tmp 14), (.tmp 15)], none⟩,
    ⟨(some 3), .op (.mv (.tmp 16)), none⟩]) (.kill [14, 15, 16]))
  (.seq (.seq (.post (.reg [⟨(some 17), .op (.mv (.tmp 3)), none⟩,
    ⟨(some 18), .op (.bin .lss (.tmp 17) (.const (Value.int .i64 0))), none⟩]) (.kill [3, 17]))
  (.cond (.tmp 18) (.ghost (.kill [1, 18]) (.seq (.reg [⟨(some 2), .op (.mv (.const (Value.bool true))), none⟩])
  .ret))
  (.ghost (.kill [18]) .skip)))
  (.seq (.post (.reg [⟨(some 20), .op (.load 6 true (.tmp 1)), none⟩,
    ⟨(some 21), .call (.func i_laws_toChecker) [(.tmp 20)] true, none⟩,
    ⟨(some 22), .call (.func i_spec_TrimChecker) [(.tmp 21)], none⟩,
    ⟨(some 19), .op (.mv (.tmp 22)), none⟩,
    ⟨(some 23), .op (.ext (.tmp 19) 0), none⟩,
    ⟨(some 24), .op (.ext (.tmp 19) 1), none⟩,
    ⟨(some 4), .op (.alloc (Value.agg #[Value.int .i64 0, Value.int .i64 0, Value.slice none 0 0, Value.slice none 0 0, Value.slice none 0 0, Value.slice none 0 0])), none⟩,
    ⟨none, .op (.store 6 (.tmp 4) (.tmp 23)), none⟩,
    ⟨(some 5), .op (.mv (.tmp 24)), none⟩]) (.kill [19, 20, 21, 22, 23, 24]))
  (.seq (.post (.reg [⟨(some 25), .op (.load 6 true (.tmp 1)), none⟩,
    ⟨(some 26), .call (.func i_laws_toChecker) [(.tmp 25)], none⟩,
    ⟨(some 6), .op (.alloc (Value.agg #[Value.int .i64 0, Value.int .i64 0, Value.slice none 0 0, Value.slice none 0 0, Value.slice none 0 0, Value.slice none 0 0])), none⟩,
    ⟨none, .op (.store 6 (.tmp 6) (.tmp 26)), none⟩]) (.kill [25, 26]))
  (.seq (.post (.reg [⟨(some 28), .op (.load 6 true (.tmp 6)), none⟩,
    ⟨(some 29), .call (.func i_impl_TrimChecker) [(.tmp 28)], none⟩,
    ⟨(some 27), .op (.mv (.tmp 29)), none⟩,
    ⟨(some 30), .op (.ext (.tmp 27) 0), none⟩,
    ⟨(some 31), .op (.ext (.tmp 27) 1), none⟩,
    ⟨(some 7), .op (.alloc (Value.agg #[Value.int .i64 0, Value.int .i64 0, Value.slice none 0 0, Value.slice none 0 0, Value.slice none 0 0, Value.slice none 0 0])), none⟩,
    ⟨none, .op (.store 6 (.tmp 7) (.tmp 30)), none⟩,
    ⟨(some 8), .op (.mv (.tmp 31)), none⟩]) (.kill [27, 28, 29, 30, 31]))
  (.seq (.seq (.post (.reg [⟨(some 32), .op (.load 6 true (.tmp 7)), none⟩,
    ⟨(some 33), .op (.load 6 true (.tmp 4)), none⟩,
    ⟨(some 34), .call (.func i_laws_eqChecker) [(.tmp 32), (.tmp 33)], none⟩,
    ⟨(some 35), .op (.un .not (.tmp 34)), none⟩,
    ⟨(some 36), .op (.mv (.tmp 35)), none⟩,
    ⟨(some 37), .op (.mv (.tmp 8)), some (36, false)⟩,
    ⟨(some 38), .op (.mv (.tmp 5)), some (36, false)⟩,
    ⟨(some 39), .op (.bin .neq (.tmp 37) (.tmp 38)), some (36, false)⟩,
    ⟨(some 40), .op (.pick (.tmp 36) (.const (Value.bool true)) (.tmp 39)), none⟩]) (.kill [32, 33, 34, 35, 36, 37, 38, 39]))
  (.cond (.tmp 40) (.ghost (.kill [1, 4, 5, 6, 7, 8, 40]) (.seq (.reg [⟨(some 2), .op (.mv (.const (Value.bool false))), none⟩])
  .ret))
  (.ghost (.kill [40]) .skip)))
  (.seq (.seq (.post (.draw [⟨0, ⟨(some 41), .op (.load 6 true (.tmp 6)), none⟩, []⟩,
    ⟨1, ⟨(some 42), .op (.load 6 true (.tmp 1)), none⟩, []⟩,
    ⟨2, ⟨(some 43), .call (.func i_laws_toChecker) [(.tmp 42)], none⟩, [0]⟩,
    ⟨3, ⟨(some 44), .call (.func i_laws_eqChecker) [(.tmp 41), (.tmp 43)], none⟩, []⟩,
    ⟨4, ⟨(some 45), .op (.un .not (.tmp 44)), none⟩, []⟩]
    [0, 0, 2, 7, 15]) (.kill [41, 42, 43, 44]))
  (.cond (.tmp 45) (.ghost (.kill [1, 4, 5, 6, 7, 8, 45]) (.seq (.reg [⟨(some 2), .op (.mv (.const (Value.bool false))), none⟩])
  .ret))
  (.ghost (.kill [45]) .skip)))
  (.seq (.reg [⟨(some 9), .op (.mv (.const (Value.int .i64 1))), none⟩])
  (.seq (.post (.reg [⟨(some 46), .op (.load 6 true (.tmp 6)), none⟩,
    ⟨(some 47), .op (.mv (.tmp 9)), none⟩,
    ⟨(some 48), .call (.func i_laws_markChecker) [(.tmp 46), (.tmp 47)], none⟩,
    ⟨(some 9), .op (.mv (.tmp 48)), none⟩]) (.kill [6, 46, 47, 48]))
  (.seq (.seq (.post (.reg [⟨(some 49), .op (.mv (.tmp 9)), none⟩,
    ⟨(some 50), .op (.bin .lss (.tmp 49) (.const (Value.int .i64 0))), none⟩,
    ⟨(some 51), .op (.mv (.tmp 50)), none⟩,
    ⟨(some 52), .op (.load 6 true (.tmp 7)), some (51, false)⟩,
    ⟨(some 53), .op (.load 6 true (.tmp 4)), some (51, false)⟩,
    ⟨(some 54), .call (.func i_laws_eqChecker) [(.tmp 52), (.tmp 53)], some (51, false)⟩,
    ⟨(some 55), .op (.un .not (.tmp 54)), some (51, false)⟩,
    ⟨(some 56), .op (.pick (.tmp 51) (.const (Value.bool true)) (.tmp 55)), none⟩,
    ⟨(some 57), .op (.mv (.tmp 56)), none⟩,
    ⟨(some 58), .op (.mv (.tmp 8)), some (57, false)⟩,
    ⟨(some 59), .op (.mv (.tmp 5)), some (57, false)⟩,
    ⟨(some 60), .op (.bin .neq (.tmp 58) (.tmp 59)), some (57, false)⟩,
    ⟨(some 61), .op (.pick (.tmp 57) (.const (Value.bool true)) (.tmp 60)), none⟩]) (.kill [8, 9, 49, 50, 51, 52, 53, 54, 55, 56, 57, 58, 59, 60]))
  (.cond (.tmp 61) (.ghost (.kill [1, 4, 5, 7, 61]) (.seq (.reg [⟨(some 2), .op (.mv (.const (Value.bool false))), none⟩])
  .ret))
  (.ghost (.kill [61]) .skip)))
  (.seq (.reg [⟨(some 10), .op (.mv (.const (Value.int .i64 1))), none⟩])
  (.seq (.post (.reg [⟨(some 62), .op (.load 6 true (.tmp 7)), none⟩,
    ⟨(some 63), .op (.mv (.tmp 10)), none⟩,
    ⟨(some 64), .call (.func i_laws_markChecker) [(.tmp 62), (.tmp 63)], none⟩,
    ⟨(some 10), .op (.mv (.tmp 64)), none⟩]) (.kill [62, 63, 64]))
  (.seq (.reg [⟨(some 11), .op (.mv (.const (Value.int .i64 1))), none⟩])
  (.seq (.post (.reg [⟨(some 65), .op (.load 6 true (.tmp 7)), none⟩,
    ⟨(some 66), .op (.mv (.tmp 11)), none⟩,
    ⟨(some 67), .call (.func i_laws_heldChecker) [(.tmp 65), (.tmp 66)], none⟩,
    ⟨(some 11), .op (.mv (.tmp 67)), none⟩]) (.kill [65, 66, 67]))
  (.seq (.seq (.post (.reg [⟨(some 68), .op (.mv (.tmp 11)), none⟩,
    ⟨(some 69), .op (.bin .lss (.tmp 68) (.const (Value.int .i64 0))), none⟩]) (.kill [68]))
  (.cond (.tmp 69) (.ghost (.kill [1, 4, 5, 7, 10, 11, 69]) (.seq (.reg [⟨(some 2), .op (.mv (.const (Value.bool false))), none⟩])
  .ret))
  (.ghost (.kill [69]) .skip)))
  (.seq (.seq (.post (.reg [⟨(some 70), .op (.mv (.tmp 11)), none⟩,
    ⟨(some 71), .op (.mv (.tmp 10)), none⟩,
    ⟨(some 72), .op (.bin .neq (.tmp 70) (.tmp 71)), none⟩]) (.kill [11, 70, 71]))
  (.cond (.tmp 72) (.ghost (.kill [1, 4, 5, 7, 10, 72]) (.seq (.reg [⟨(some 2), .op (.mv (.const (Value.bool false))), none⟩])
  .ret))
  (.ghost (.kill [72]) .skip)))
  (.seq (.post (.reg [⟨(some 74), .op (.load 6 true (.tmp 1)), none⟩,
    ⟨(some 75), .call (.func i_laws_toChecker) [(.tmp 74)], none⟩,
    ⟨(some 76), .call (.func i_impl_TrimChecker) [(.tmp 75)], none⟩,
    ⟨(some 73), .op (.mv (.tmp 76)), none⟩,
    ⟨(some 77), .op (.ext (.tmp 73) 0), none⟩,
    ⟨(some 78), .op (.ext (.tmp 73) 1), none⟩,
    ⟨(some 12), .op (.alloc (Value.agg #[Value.int .i64 0, Value.int .i64 0, Value.slice none 0 0, Value.slice none 0 0, Value.slice none 0 0, Value.slice none 0 0])), none⟩,
    ⟨none, .op (.store 6 (.tmp 12) (.tmp 77)), none⟩,
    ⟨(some 13), .op (.mv (.tmp 78)), none⟩]) (.kill [1, 73, 74, 75, 76, 77, 78]))
  (.seq (.seq (.post (.reg [⟨(some 79), .op (.load 6 true (.tmp 12)), none⟩,
    ⟨(some 80), .op (.load 6 true (.tmp 4)), none⟩,
    ⟨(some 81), .call (.func i_laws_eqChecker) [(.tmp 79), (.tmp 80)], none⟩,
    ⟨(some 82), .op (.un .not (.tmp 81)), none⟩,
    ⟨(some 83), .op (.mv (.tmp 82)), none⟩,
    ⟨(some 84), .op (.mv (.tmp 13)), some (83, false)⟩,
    ⟨(some 85), .op (.mv (.tmp 5)), some (83, false)⟩,
    ⟨(some 86), .op (.bin .neq (.tmp 84) (.tmp 85)), some (83, false)⟩,
    ⟨(some 87), .op (.pick (.tmp 83) (.const (Value.bool true)) (.tmp 86)), none⟩]) (.kill [4, 5, 12, 13, 79, 80, 81, 82, 83, 84, 85, 86]))
  (.cond (.tmp 87) (.ghost (.kill [7, 10, 87]) (.seq (.reg [⟨(some 2), .op (.mv (.const (Value.bool false))), none⟩])
  .ret))
  (.ghost (.kill [87]) .skip)))
  (.seq (.reg [⟨(some 11), .op (.mv (.const (Value.int .i64 1))), none⟩])
  (.seq (.post (.reg [⟨(some 88), .op (.load 6 true (.tmp 7)), none⟩,
    ⟨(some 89), .op (.mv (.tmp 11)), none⟩,
    ⟨(some 90), .call (.func i_laws_heldChecker) [(.tmp 88), (.tmp 89)], none⟩,
    ⟨(some 11), .op (.mv (.tmp 90)), none⟩]) (.kill [7, 88, 89, 90]))
  (.seq (.seq (.post (.reg [⟨(some 91), .op (.mv (.tmp 11)), none⟩,
    ⟨(some 92), .op (.bin .lss (.tmp 91) (.const (Value.int .i64 0))), none⟩]) (.kill [91]))
  (.cond (.tmp 92) (.ghost (.kill [10, 11, 92]) (.seq (.reg [⟨(some 2), .op (.mv (.const (Value.bool false))), none⟩])
  .ret))
  (.ghost (.kill [92]) .skip)))
  (.seq (.seq (.post (.reg [⟨(some 93), .op (.mv (.tmp 11)), none⟩,
    ⟨(some 94), .op (.mv (.tmp 10)), none⟩,
    ⟨(some 95), .op (.bin .neq (.tmp 93) (.tmp 94)), none⟩]) (.kill [10, 11, 93, 94]))
  (.cond (.tmp 95) (.ghost (.kill [95]) (.seq (.reg [⟨(some 2), .op (.mv (.const (Value.bool false))), none⟩])
  .ret))
  (.ghost (.kill [95]) .skip)))
  (.seq (.reg [⟨(some 2), .op (.mv (.const (Value.bool true))), none⟩])
  .ret)))))))))))))))))))))))))
theorem cf_laws_FnExactTrimChecker : chkFn Try.prog i_laws_FnExactTrimChecker ac_laws_FnExactTrimChecker [.tmp 2] 96 = true := by decide +kernel
def fa_laws_FnExactTrimChecker : FnA := ⟨ac_laws_FnExactTrimChecker, [.tmp 2], 96, false, true, [], .any, none⟩

end Go.Proofs.Ytoliadfdklfmfaa
