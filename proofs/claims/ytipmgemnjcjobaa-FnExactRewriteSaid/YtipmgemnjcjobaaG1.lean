/- The code of the functions, checked against the loaded program; printed by a program (gen2.py). -/
import Derived.Test.YtipmgemnjcjobaaProg
import Derived.Test.YtipmgemnjcjobaaAw25
import Derived.Test.YtipmgemnjcjobaaG0
set_option linter.unusedVariables false
set_option maxRecDepth 100000
namespace Go.Proofs.Ytipmgemnjcjobaa
open Aw

/-- The checked code of laws FnExactRewriteOn. -/
def ac_laws_FnExactRewriteOn : AC := (.seq (.post (.reg [⟨(some 4), .op (.box true (.tmp 0)), none⟩,
    ⟨(some 8), .op (.mv (.const (Value.bool false))), none⟩]) (.kill [0, 8]))
  (.seq (.seq (.post (.reg [⟨(some 27), .op (.mv (.tmp 2)), none⟩,
    ⟨(some 28), .op (.len false (.tmp 27)), none⟩,
    ⟨(some 29), .op (.bin .gtr (.tmp 28) (.const (Value.int .i64 1048576))), none⟩]) (.kill [27, 28]))
  (.cond (.tmp 29) (.ghost (.kill [1, 2, 3, 4, 29]) (.seq (.reg [⟨(some 8), .op (.mv (.const (Value.bool true))), none⟩])
  .ret))
  (.ghost (.kill [29]) .skip)))
  (.seq (.seq (.post (.reg [⟨(some 30), .op (.mv (.tmp 3)), none⟩,
    ⟨(some 31), .op (.len true (.tmp 30)), none⟩,
    ⟨(some 32), .op (.bin .gtr (.tmp 31) (.const (Value.int .i64 1048576))), none⟩]) (.kill [30, 31]))
  (.cond (.tmp 32) (.ghost (.kill [1, 2, 3, 4, 32]) (.seq (.reg [⟨(some 8), .op (.mv (.const (Value.bool true))), none⟩])
  .ret))
  (.ghost (.kill [32]) .skip)))
  (.seq (.reg [⟨(some 9), .op (.mv (.const (Value.int .i64 1048576))), none⟩])
  (.seq (.post (.reg [⟨(some 33), .op (.load 5 true (.tmp 4)), none⟩,
    ⟨(some 34), .op (.mv (.tmp 9)), none⟩,
    ⟨(some 35), .call (.func i_laws_szRewriter) [(.tmp 33), (.tmp 34)], none⟩,
    ⟨(some 9), .op (.mv (.tmp 35)), none⟩]) (.kill [33, 34, 35]))
  (.seq (.seq (.post (.reg [⟨(some 36), .op (.mv (.tmp 9)), none⟩,
    ⟨(some 37), .op (.bin .lss (.tmp 36) (.const (Value.int .i64 0))), none⟩]) (.kill [9, 36]))
  (.cond (.tmp 37) (.ghost (.kill [1, 2, 3, 4, 37]) (.seq (.reg [⟨(some 8), .op (.mv (.const (Value.bool true))), none⟩])
  .ret))
  (.ghost (.kill [37]) .skip)))
  (.seq (.post (.reg [⟨(some 39), .op (.load 5 true (.tmp 4)), none⟩,
    ⟨(some 40), .call (.func i_laws_toRewriter) [(.tmp 39)], none⟩,
    ⟨(some 41), .op (.mv (.tmp 1)), none⟩,
    ⟨(some 42), .op (.mv (.tmp 2)), none⟩,
    ⟨(some 43), .call (.func i_laws_toInt64S) [(.tmp 42)], none⟩,
    ⟨(some 44), .op (.mv (.tmp 3)), none⟩,
    ⟨(some 45), .call (.func i_spec_RewriteOn) [(.tmp 40), (.tmp 41), (.tmp 43), (.tmp 44)], none⟩,
    ⟨(some 38), .op (.mv (.tmp 45)), none⟩,
    ⟨(some 46), .op (.ext (.tmp 38) 0), none⟩,
    ⟨(some 47), .op (.ext (.tmp 38) 1), none⟩,
    ⟨(some 48), .op (.ext (.tmp 38) 2), none⟩,
    ⟨(some 49), .op (.ext (.tmp 38) 3), none⟩,
    ⟨(some 10), .op (.mv (.tmp 46)), none⟩,
    ⟨(some 11), .op (.mv (.tmp 47)), none⟩,
    ⟨(some 12), .op (.mv (.tmp 48)), none⟩,
    ⟨(some 13), .op (.mv (.tmp 49)), none⟩]) (.kill [38, 39, 40, 41, 42, 43, 44, 45, 46, 47, 48, 49]))
  (.seq (.post (.reg [⟨(some 50), .op (.load 5 true (.tmp 4)), none⟩,
    ⟨(some 51), .call (.func i_laws_toRewriter) [(.tmp 50)], none⟩,
    ⟨(some 14), .op (.alloc (Value.agg #[Value.int .i64 0, Value.int .i64 0, Value.slice none 0 0, Value.slice none 0 0, Value.slice none 0 0])), none⟩,
    ⟨none, .op (.store 5 (.tmp 14) (.tmp 51)), none⟩]) (.kill [50, 51]))
  (.seq (.post (.reg [⟨(some 52), .op (.mv (.tmp 2)), none⟩,
    ⟨(some 53), .call (.func i_laws_toInt64S) [(.tmp 52)], none⟩,
    ⟨(some 15), .op (.mv (.tmp 53)), none⟩]) (.kill [52, 53]))
  (.seq (.post (.reg [⟨(some 55), .op (.load 5 true (.tmp 14)), none⟩,
    ⟨(some 56), .op (.mv (.tmp 1)), none⟩,
    ⟨(some 57), .op (.mv (.tmp 15)), none⟩,
    ⟨(some 58), .op (.mv (.tmp 3)), none⟩,
    ⟨(some 59), .call (.func i_impl_RewriteOn) [(.tmp 55), (.tmp 56), (.tmp 57), (.tmp 58)], none⟩,
    ⟨(some 54), .op (.mv (.tmp 59)), none⟩,
    ⟨(some 60), .op (.ext (.tmp 54) 0), none⟩,
    ⟨(some 61), .op (.ext (.tmp 54) 1), none⟩,
    ⟨(some 62), .op (.ext (.tmp 54) 2), none⟩,
    ⟨(some 63), .op (.ext (.tmp 54) 3), none⟩,
    ⟨(some 16), .op (.mv (.tmp 60)), none⟩,
    ⟨(some 17), .op (.mv (.tmp 61)), none⟩,
    ⟨(some 18), .op (.mv (.tmp 62)), none⟩,
    ⟨(some 19), .op (.mv (.tmp 63)), none⟩]) (.kill [54, 55, 56, 57, 58, 59, 60, 61, 62, 63]))
  (.seq (.seq (.post (.reg [⟨(some 64), .op (.mv (.tmp 16)), none⟩,
    ⟨(some 65), .op (.mv (.tmp 10)), none⟩,
    ⟨(some 66), .op (.bin .neq (.tmp 64) (.tmp 65)), none⟩,
    ⟨(some 67), .op (.mv (.tmp 66)), none⟩,
    ⟨(some 68), .op (.mv (.tmp 17)), some (67, false)⟩,
    ⟨(some 69), .op (.mv (.tmp 11)), some (67, false)⟩,
    ⟨(some 70), .call (.func i_laws_eqInt64S) [(.tmp 68), (.tmp 69)], some (67, false)⟩,
    ⟨(some 71), .op (.un .not (.tmp 70)), some (67, false)⟩,
    ⟨(some 72), .op (.pick (.tmp 67) (.const (Value.bool true)) (.tmp 71)), none⟩,
    ⟨(some 73), .op (.mv (.tmp 72)), none⟩,
    ⟨(some 74), .op (.mv (.tmp 18)), some (73, false)⟩,
    ⟨(some 75), .op (.mv (.tmp 12)), some (73, false)⟩,
    ⟨(some 76), .op (.bin .neq (.tmp 74) (.tmp 75)), some (73, false)⟩,
    ⟨(some 77), .op (.pick (.tmp 73) (.const (Value.bool true)) (.tmp 76)), none⟩,
    ⟨(some 78), .op (.mv (.tmp 77)), none⟩,
    ⟨(some 79), .op (.mv (.tmp 19)), some (78, false)⟩,
    ⟨(some 80), .op (.mv (.tmp 13)), some (78, false)⟩,
    ⟨(some 81), .op (.bin .neq (.tmp 79) (.tmp 80)), some (78, false)⟩,
    ⟨(some 82), .op (.pick (.tmp 78) (.const (Value.bool true)) (.tmp 81)), none⟩]) (.kill [64, 65, 66, 67, 68, 69, 70, 71, 72, 73, 74, 75, 76, 77, 78, 79, 80, 81]))
  (.cond (.tmp 82) (.ghost (.kill [1, 2, 3, 4, 10, 11, 12, 13, 14, 15, 16, 17, 18, 19, 82]) (.seq (.reg [⟨(some 8), .op (.mv (.const (Value.bool false))), none⟩])
  .ret))
  (.ghost (.kill [82]) .skip)))
  (.seq (.seq (.post (.draw [⟨0, ⟨(some 83), .op (.load 5 true (.tmp 14)), none⟩, []⟩,
    ⟨1, ⟨(some 84), .op (.load 5 true (.tmp 4)), none⟩, []⟩,
    ⟨2, ⟨(some 85), .call (.func i_laws_toRewriter) [(.tmp 84)], none⟩, [0]⟩,
    ⟨3, ⟨(some 86), .call (.func i_laws_eqRewriter) [(.tmp 83), (.tmp 85)], none⟩, []⟩,
    ⟨4, ⟨(some 87), .op (.un .not (.tmp 86)), none⟩, []⟩]
    [0, 0, 2, 7, 15]) (.kill [83, 84, 85, 86]))
  (.cond (.tmp 87) (.ghost (.kill [1, 2, 3, 4, 10, 11, 12, 13, 14, 15, 16, 17, 18, 19, 87]) (.seq (.reg [⟨(some 8), .op (.mv (.const (Value.bool false))), none⟩])
  .ret))
  (.ghost (.kill [87]) .skip)))
  (.seq (.seq (.post (.reg [⟨(some 88), .op (.mv (.tmp 15)), none⟩,
    ⟨(some 89), .op (.mv (.tmp 2)), none⟩,
    ⟨(some 90), .call (.func i_laws_toInt64S) [(.tmp 89)], none⟩,
    ⟨(some 91), .call (.func i_laws_eqInt64S) [(.tmp 88), (.tmp 90)], none⟩,
    ⟨(some 92), .op (.un .not (.tmp 91)), none⟩]) (.kill [88, 89, 90, 91]))
  (.cond (.tmp 92) (.ghost (.kill [1, 2, 3, 4, 10, 11, 12, 13, 14, 15, 16, 17, 18, 19, 92]) (.seq (.reg [⟨(some 8), .op (.mv (.const (Value.bool false))), none⟩])
  .ret))
  (.ghost (.kill [92]) .skip)))
  (.seq (.reg [⟨(some 20), .op (.mv (.const (Value.int .i64 1))), none⟩])
  (.seq (.post (.reg [⟨(some 93), .op (.load 5 true (.tmp 14)), none⟩,
    ⟨(some 94), .op (.mv (.tmp 20)), none⟩,
    ⟨(some 95), .call (.func i_laws_markRewriter) [(.tmp 93), (.tmp 94)], none⟩,
    ⟨(some 20), .op (.mv (.tmp 95)), none⟩]) (.kill [14, 93, 94, 95]))
  (.seq (.post (.reg [⟨(some 96), .op (.mv (.tmp 15)), none⟩,
    ⟨(some 97), .op (.mv (.tmp 20)), none⟩,
    ⟨(some 98), .call (.func i_laws_markInt64S) [(.tmp 96), (.tmp 97)], none⟩,
    ⟨(some 20), .op (.mv (.tmp 98)), none⟩]) (.kill [15, 96, 97, 98]))
  (.seq (.seq (.post (.reg [⟨(some 99), .op (.mv (.tmp 20)), none⟩,
    ⟨(some 100), .op (.bin .lss (.tmp 99) (.const (Value.int .i64 0))), none⟩,
    ⟨(some 101), .op (.mv (.tmp 100)), none⟩,
    ⟨(some 102), .op (.mv (.tmp 16)), some (101, false)⟩,
    ⟨(some 103), .op (.mv (.tmp 10)), some (101, false)⟩,
    ⟨(some 104), .op (.bin .neq (.tmp 102) (.tmp 103)), some (101, false)⟩,
    ⟨(some 105), .op (.pick (.tmp 101) (.const (Value.bool true)) (.tmp 104)), none⟩,
    ⟨(some 106), .op (.mv (.tmp 105)), none⟩,
    ⟨(some 107), .op (.mv (.tmp 17)), some (106, false)⟩,
    ⟨(some 108), .op (.mv (.tmp 11)), some (106, false)⟩,
    ⟨(some 109), .call (.func i_laws_eqInt64S) [(.tmp 107), (.tmp 108)], some (106, false)⟩,
    ⟨(some 110), .op (.un .not (.tmp 109)), some (106, false)⟩,
    ⟨(some 111), .op (.pick (.tmp 106) (.const (Value.bool true)) (.tmp 110)), none⟩,
    ⟨(some 112), .op (.mv (.tmp 111)), none⟩,
    ⟨(some 113), .op (.mv (.tmp 18)), some (112, false)⟩,
    ⟨(some 114), .op (.mv (.tmp 12)), some (112, false)⟩,
    ⟨(some 115), .op (.bin .neq (.tmp 113) (.tmp 114)), some (112, false)⟩,
    ⟨(some 116), .op (.pick (.tmp 112) (.const (Value.bool true)) (.tmp 115)), none⟩,
    ⟨(some 117), .op (.mv (.tmp 116)), none⟩,
    ⟨(some 118), .op (.mv (.tmp 19)), some (117, false)⟩,
    ⟨(some 119), .op (.mv (.tmp 13)), some (117, false)⟩,
    ⟨(some 120), .op (.bin .neq (.tmp 118) (.tmp 119)), some (117, false)⟩,
    ⟨(some 121), .op (.pick (.tmp 117) (.const (Value.bool true)) (.tmp 120)), none⟩]) (.kill [16, 18, 19, 20, 99, 100, 101, 102, 103, 104, 105, 106, 107, 108, 109, 110, 111, 112, 113, 114, 115, 116, 117, 118, 119, 120]))
  (.cond (.tmp 121) (.ghost (.kill [1, 2, 3, 4, 10, 11, 12, 13, 17, 121]) (.seq (.reg [⟨(some 8), .op (.mv (.const (Value.bool false))), none⟩])
  .ret))
  (.ghost (.kill [121]) .skip)))
  (.seq (.reg [⟨(some 21), .op (.mv (.const (Value.int .i64 1))), none⟩])
  (.seq (.post (.reg [⟨(some 122), .op (.mv (.tmp 17)), none⟩,
    ⟨(some 123), .op (.mv (.tmp 21)), none⟩,
    ⟨(some 124), .call (.func i_laws_markInt64S) [(.tmp 122), (.tmp 123)], none⟩,
    ⟨(some 21), .op (.mv (.tmp 124)), none⟩]) (.kill [122, 123, 124]))
  (.seq (.reg [⟨(some 22), .op (.mv (.const (Value.int .i64 1))), none⟩])
  (.seq (.post (.reg [⟨(some 125), .op (.mv (.tmp 17)), none⟩,
    ⟨(some 126), .op (.mv (.tmp 22)), none⟩,
    ⟨(some 127), .call (.func i_laws_heldInt64S) [(.tmp 125), (.tmp 126)], none⟩,
    ⟨(some 22), .op (.mv (.tmp 127)), none⟩]) (.kill [125, 126, 127]))
  (.seq (.seq (.post (.reg [⟨(some 128), .op (.mv (.tmp 22)), none⟩,
    ⟨(some 129), .op (.bin .lss (.tmp 128) (.const (Value.int .i64 0))), none⟩]) (.kill [128]))
  (.cond (.tmp 129) (.ghost (.kill [1, 2, 3, 4, 10, 11, 12, 13, 17, 21, 22, 129]) (.seq (.reg [⟨(some 8), .op (.mv (.const (Value.bool false))), none⟩])
  .ret))
  (.ghost (.kill [129]) .skip)))
  (.seq (.seq (.post (.reg [⟨(some 130), .op (.mv (.tmp 22)), none⟩,
    ⟨(some 131), .op (.mv (.tmp 21)), none⟩,
    ⟨(some 132), .op (.bin .neq (.tmp 130) (.tmp 131)), none⟩]) (.kill [22, 130, 131]))
  (.cond (.tmp 132) (.ghost (.kill [1, 2, 3, 4, 10, 11, 12, 13, 17, 21, 132]) (.seq (.reg [⟨(some 8), .op (.mv (.const (Value.bool false))), none⟩])
  .ret))
  (.ghost (.kill [132]) .skip)))
  (.seq (.post (.reg [⟨(some 134), .op (.load 5 true (.tmp 4)), none⟩,
    ⟨(some 135), .call (.func i_laws_toRewriter) [(.tmp 134)], none⟩,
    ⟨(some 136), .op (.mv (.tmp 1)), none⟩,
    ⟨(some 137), .op (.mv (.tmp 2)), none⟩,
    ⟨(some 138), .call (.func i_laws_toInt64S) [(.tmp 137)], none⟩,
    ⟨(some 139), .op (.mv (.tmp 3)), none⟩,
    ⟨(some 140), .call (.func i_impl_RewriteOn) [(.tmp 135), (.tmp 136), (.tmp 138), (.tmp 139)], none⟩,
    ⟨(some 133), .op (.mv (.tmp 140)), none⟩,
    ⟨(some 141), .op (.ext (.tmp 133) 0), none⟩,
    ⟨(some 142), .op (.ext (.tmp 133) 1), none⟩,
    ⟨(some 143), .op (.ext (.tmp 133) 2), none⟩,
    ⟨(some 144), .op (.ext (.tmp 133) 3), none⟩,
    ⟨(some 23), .op (.mv (.tmp 141)), none⟩,
    ⟨(some 24), .op (.mv (.tmp 142)), none⟩,
    ⟨(some 25), .op (.mv (.tmp 143)), none⟩,
    ⟨(some 26), .op (.mv (.tmp 144)), none⟩]) (.kill [1, 2, 3, 4, 133, 134, 135, 136, 137, 138, 139, 140, 141, 142, 143, 144]))
  (.seq (.seq (.post (.reg [⟨(some 145), .op (.mv (.tmp 23)), none⟩,
    ⟨(some 146), .op (.mv (.tmp 10)), none⟩,
    ⟨(some 147), .op (.bin .neq (.tmp 145) (.tmp 146)), none⟩,
    ⟨(some 148), .op (.mv (.tmp 147)), none⟩,
    ⟨(some 149), .op (.mv (.tmp 24)), some (148, false)⟩,
    ⟨(some 150), .op (.mv (.tmp 11)), some (148, false)⟩,
    ⟨(some 151), .call (.func i_laws_eqInt64S) [(.tmp 149), (.tmp 150)], some (148, false)⟩,
    ⟨(some 152), .op (.un .not (.tmp 151)), some (148, false)⟩,
    ⟨(some 153), .op (.pick (.tmp 148) (.const (Value.bool true)) (.tmp 152)), none⟩,
    ⟨(some 154), .op (.mv (.tmp 153)), none⟩,
    ⟨(some 155), .op (.mv (.tmp 25)), some (154, false)⟩,
    ⟨(some 156), .op (.mv (.tmp 12)), some (154, false)⟩,
    ⟨(some 157), .op (.bin .neq (.tmp 155) (.tmp 156)), some (154, false)⟩,
    ⟨(some 158), .op (.pick (.tmp 154) (.const (Value.bool true)) (.tmp 157)), none⟩,
    ⟨(some 159), .op (.mv (.tmp 158)), none⟩,
    ⟨(some 160), .op (.mv (.tmp 26)), some (159, false)⟩,
    ⟨(some 161), .op (.mv (.tmp 13)), some (159, false)⟩,
    ⟨(some 162), .op (.bin .neq (.tmp 160) (.tmp 161)), some (159, false)⟩,
    ⟨(some 163), .op (.pick (.tmp 159) (.const (Value.bool true)) (.tmp 162)), none⟩]) (.kill [10, 11, 12, 13, 23, 24, 25, 26, 145, 146, 147, 148, 149, 150, 151, 152, 153, 154, 155, 156, 157, 158, 159, 160, 161, 162]))
  (.cond (.tmp 163) (.ghost (.kill [17, 21, 163]) (.seq (.reg [⟨(some 8), .op (.mv (.const (Value.bool false))), none⟩])
  .ret))
  (.ghost (.kill [163]) .skip)))
  (.seq (.reg [⟨(some 22), .op (.mv (.const (Value.int .i64 1))), none⟩])
  (.seq (.post (.reg [⟨(some 164), .op (.mv (.tmp 17)), none⟩,
    ⟨(some 165), .op (.mv (.tmp 22)), none⟩,
    ⟨(some 166), .call (.func i_laws_heldInt64S) [(.tmp 164), (.tmp 165)], none⟩,
    ⟨(some 22), .op (.mv (.tmp 166)), none⟩]) (.kill [17, 164, 165, 166]))
  (.seq (.seq (.post (.reg [⟨(some 167), .op (.mv (.tmp 22)), none⟩,
    ⟨(some 168), .op (.bin .lss (.tmp 167) (.const (Value.int .i64 0))), none⟩]) (.kill [167]))
  (.cond (.tmp 168) (.ghost (.kill [21, 22, 168]) (.seq (.reg [⟨(some 8), .op (.mv (.const (Value.bool false))), none⟩])
  .ret))
  (.ghost (.kill [168]) .skip)))
  (.seq (.seq (.post (.reg [⟨(some 169), .op (.mv (.tmp 22)), none⟩,
    ⟨(some 170), .op (.mv (.tmp 21)), none⟩,
    ⟨(some 171), .op (.bin .neq (.tmp 169) (.tmp 170)), none⟩]) (.kill [21, 22, 169, 170]))
  (.cond (.tmp 171) (.ghost (.kill [171]) (.seq (.reg [⟨(some 8), .op (.mv (.const (Value.bool false))), none⟩])
  .ret))
  (.ghost (.kill [171]) .skip)))
  (.seq (.reg [⟨(some 8), .op (.mv (.const (Value.bool true))), none⟩])
  .ret))))))))))))))))))))))))))))))
theorem cf_laws_FnExactRewriteOn : chkFn Try.prog i_laws_FnExactRewriteOn ac_laws_FnExactRewriteOn [.tmp 8] 172 = true := by decide +kernel
def fa_laws_FnExactRewriteOn : FnA := ⟨ac_laws_FnExactRewriteOn, [.tmp 8], 172, false, true, [], .any, none⟩

end Go.Proofs.Ytipmgemnjcjobaa
