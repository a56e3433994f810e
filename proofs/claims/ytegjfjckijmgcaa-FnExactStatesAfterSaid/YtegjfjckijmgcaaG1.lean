/- The code of the functions, checked against the loaded program; printed by a program (gen2.py). -/
import Derived.Test.YtegjfjckijmgcaaProg
import Derived.Test.YtegjfjckijmgcaaAw25
import Derived.Test.YtegjfjckijmgcaaG0
set_option linter.unusedVariables false
set_option maxRecDepth 100000
namespace Go.Proofs.Ytegjfjckijmgcaa
open Aw

/-- The checked code of impl ValidChoices. -/
def lb_impl_ValidChoices_0 : AC := (.post (.seq (.reg [⟨(some 90), .op (.bin .lss (.tmp 89) (.tmp 88)), none⟩])
  (.seq (.cond (.tmp 90) (.ghost (.kill [90]) .skip)
  (.ghost (.kill [87, 88, 89, 90]) (.exit 4)))
  (.seq (.block 5 (.seq (.post (.reg [⟨(some 91), .op (.mv (.tmp 89)), none⟩,
    ⟨(some 92), .op (.iaddrS (.tmp 87) (.tmp 89) 2), none⟩,
    ⟨(some 93), .op (.load 2 true (.tmp 92)), none⟩,
    ⟨(some 7), .op (.alloc (Value.agg #[Value.int .i64 0, Value.int .i64 0])), none⟩,
    ⟨(some 6), .op (.mv (.tmp 91)), none⟩,
    ⟨none, .op (.store 2 (.tmp 7) (.tmp 93)), none⟩]) (.kill [91, 92, 93]))
  (.seq (.post (.draw [⟨0, ⟨(some 94), .op (.faddr (.tmp 7) 0), none⟩, []⟩,
    ⟨1, ⟨(some 95), .op (.load 1 false (.tmp 94)), none⟩, []⟩,
    ⟨2, ⟨(some 96), .op (.load 1 false (.tmp 3)), none⟩, []⟩,
    ⟨3, ⟨(some 97), .op (.bin .sub (.tmp 96) (.const (Value.int .i64 1))), none⟩, []⟩,
    ⟨4, ⟨(some 98), .call (.func i_impl_within) [(.tmp 95), (.const (Value.int .i64 0)), (.tmp 97)], none⟩, []⟩,
    ⟨5, ⟨(some 99), .op (.un .not (.tmp 98)), none⟩, []⟩,
    ⟨6, ⟨(some 100), .op (.mv (.tmp 99)), none⟩, []⟩,
    ⟨7, ⟨(some 101), .op (.faddr (.tmp 7) 1), some (100, false)⟩, []⟩,
    ⟨8, ⟨(some 102), .op (.load 1 false (.tmp 101)), some (100, false)⟩, []⟩,
    ⟨9, ⟨(some 103), .op (.faddr (.tmp 1) 0), some (100, false)⟩, []⟩,
    ⟨10, ⟨(some 104), .op (.load 1 false (.tmp 103)), some (100, false)⟩, []⟩,
    ⟨11, ⟨(some 105), .op (.bin .sub (.tmp 104) (.const (Value.int .i64 1))), some (100, false)⟩, []⟩,
    ⟨12, ⟨(some 106), .call (.func i_impl_within) [(.tmp 102), (.const (Value.int .i64 0)), (.tmp 105)], some (100, false)⟩, []⟩,
    ⟨13, ⟨(some 107), .op (.un .not (.tmp 106)), some (100, false)⟩, []⟩,
    ⟨14, ⟨(some 108), .op (.pick (.tmp 100) (.const (Value.bool true)) (.tmp 107)), none⟩, []⟩,
    ⟨15, ⟨(some 109), .op (.mv (.tmp 108)), none⟩, []⟩,
    ⟨16, ⟨(some 110), .op (.mv (.tmp 6)), some (109, false)⟩, []⟩,
    ⟨17, ⟨(some 111), .op (.bin .gtr (.tmp 110) (.const (Value.int .i64 0))), some (109, false)⟩, []⟩,
    ⟨18, ⟨(some 112), .op (.mv (.tmp 111)), some (109, false)⟩, []⟩,
    ⟨19, ⟨(some 113), .op (.faddr (.tmp 1) 3), some (112, true)⟩, []⟩,
    ⟨20, ⟨(some 114), .op (.load 1 false (.tmp 113)), some (112, true)⟩, []⟩,
    ⟨21, ⟨(some 115), .op (.mv (.tmp 4)), some (112, true)⟩, []⟩,
    ⟨22, ⟨(some 116), .op (.iaddrS (.tmp 114) (.tmp 115) 1), some (112, true)⟩, []⟩,
    ⟨23, ⟨(some 117), .op (.load 1 false (.tmp 116)), some (112, true)⟩, []⟩,
    ⟨24, ⟨(some 118), .op (.mv (.tmp 5)), some (112, true)⟩, []⟩,
    ⟨25, ⟨(some 119), .op (.iaddrS (.tmp 117) (.tmp 118) 1), some (112, true)⟩, []⟩,
    ⟨26, ⟨(some 120), .op (.load 1 false (.tmp 119)), some (112, true)⟩, []⟩,
    ⟨27, ⟨(some 121), .op (.mv (.tmp 6)), some (112, true)⟩, []⟩,
    ⟨28, ⟨(some 122), .op (.bin .sub (.tmp 121) (.const (Value.int .i64 1))), some (112, true)⟩, []⟩,
    ⟨29, ⟨(some 123), .op (.iaddrS (.tmp 120) (.tmp 122) 2), some (112, true)⟩, []⟩,
    ⟨30, ⟨(some 124), .op (.load 2 true (.tmp 123)), some (112, true)⟩, []⟩,
    ⟨31, ⟨(some 125), .op (.load 2 true (.tmp 7)), some (112, true)⟩, []⟩,
    ⟨32, ⟨(some 126), .call (.func i_impl_comparePushes) [(.tmp 124), (.tmp 125)], some (112, true)⟩, []⟩,
    ⟨33, ⟨(some 127), .op (.bin .geq (.tmp 126) (.const (Value.int .i64 0))), some (112, true)⟩, []⟩,
    ⟨34, ⟨(some 128), .op (.pick (.tmp 112) (.tmp 127) (.const (Value.bool false))), some (109, false)⟩, []⟩,
    ⟨35, ⟨(some 129), .op (.pick (.tmp 109) (.const (Value.bool true)) (.tmp 128)), none⟩, []⟩]
    [0, 1, 0, 4, 15, 31, 63, 127, 255, 127, 639, 1663, 4095, 8191, 16383, 32767, 65535, 131071, 262143, 524287, 1048575, 524287, 4194303, 8388607, 524287, 33554431, 67108863, 524287, 134742015, 536870911, 1073741823, 524287, 4294967295, 8589934591, 17179869183, 34359738367]) (.kill [6, 7, 94, 95, 96, 97, 98, 99, 100, 101, 102, 103, 104, 105, 106, 107, 108, 109, 110, 111, 112, 113, 114, 115, 116, 117, 118, 119, 120, 121, 122, 123, 124, 125, 126, 127, 128]))
  (.cond (.tmp 129) (.ghost (.kill [1, 3, 4, 5, 48, 49, 77, 87, 88, 89, 129]) (.seq (.reg [⟨(some 2), .op (.mv (.const (Value.bool false))), none⟩])
  .ret))
  (.ghost (.kill [129]) .skip)))))
  (.post (.reg [⟨(some 130), .op (.bin .add (.tmp 89) (.const (Value.int .i64 1))), none⟩,
    ⟨(some 89), .op (.mv (.tmp 130)), none⟩]) (.kill [130]))))) .nv)
def lo_impl_ValidChoices_0 : AC := (.loop lb_impl_ValidChoices_0)
def lb_impl_ValidChoices_1 : AC := (.post (.seq (.reg [⟨(some 78), .op (.bin .lss (.tmp 77) (.const (Value.int .i64 2))), none⟩])
  (.seq (.cond (.tmp 78) (.ghost (.kill [78]) .skip)
  (.ghost (.kill [4, 77, 78]) (.exit 2)))
  (.seq (.block 3 (.seq (.post (.reg [⟨(some 79), .op (.mv (.tmp 77)), none⟩,
    ⟨(some 5), .op (.mv (.tmp 79)), none⟩]) (.kill [79]))
  (.seq (.seq (.post (.reg [⟨(some 80), .op (.faddr (.tmp 1) 3), none⟩,
    ⟨(some 81), .op (.load 1 false (.tmp 80)), none⟩,
    ⟨(some 82), .op (.mv (.tmp 4)), none⟩,
    ⟨(some 83), .op (.iaddrS (.tmp 81) (.tmp 82) 1), none⟩,
    ⟨(some 84), .op (.load 1 false (.tmp 83)), none⟩,
    ⟨(some 85), .op (.mv (.tmp 5)), none⟩,
    ⟨(some 86), .op (.iaddrS (.tmp 84) (.tmp 85) 1), none⟩,
    ⟨(some 87), .op (.load 1 false (.tmp 86)), none⟩,
    ⟨(some 88), .op (.len false (.tmp 87)), none⟩,
    ⟨(some 89), .op (.mv (.const (Value.int .i64 0))), none⟩]) (.kill [80, 81, 82, 83, 84, 85, 86]))
  (.post (.block 4 (.ghost .nv lo_impl_ValidChoices_0)) .nv))
  (.ghost (.kill [87, 88, 89]) (.seq (.post (.draw [⟨0, ⟨(some 131), .op (.faddr (.tmp 1) 5), none⟩, []⟩,
    ⟨1, ⟨(some 132), .op (.load 1 false (.tmp 131)), none⟩, []⟩,
    ⟨2, ⟨(some 133), .op (.mv (.tmp 4)), none⟩, []⟩,
    ⟨3, ⟨(some 134), .op (.iaddrS (.tmp 132) (.tmp 133) 1), none⟩, []⟩,
    ⟨4, ⟨(some 135), .op (.load 1 false (.tmp 134)), none⟩, []⟩,
    ⟨5, ⟨(some 136), .op (.mv (.tmp 5)), none⟩, []⟩,
    ⟨6, ⟨(some 137), .op (.iaddrS (.tmp 135) (.tmp 136) 1), none⟩, []⟩,
    ⟨7, ⟨(some 138), .op (.load 1 false (.tmp 137)), none⟩, []⟩,
    ⟨8, ⟨(some 139), .op (.load 1 false (.tmp 3)), none⟩, []⟩,
    ⟨9, ⟨(some 140), .call (.func i_impl_isRising) [(.tmp 138), (.tmp 139)], none⟩, []⟩,
    ⟨10, ⟨(some 141), .op (.un .not (.tmp 140)), none⟩, []⟩,
    ⟨11, ⟨(some 142), .op (.mv (.tmp 141)), none⟩, []⟩,
    ⟨12, ⟨(some 143), .op (.faddr (.tmp 1) 4), some (142, false)⟩, []⟩,
    ⟨13, ⟨(some 144), .op (.load 1 false (.tmp 143)), some (142, false)⟩, []⟩,
    ⟨14, ⟨(some 145), .op (.mv (.tmp 4)), some (142, false)⟩, []⟩,
    ⟨15, ⟨(some 146), .op (.iaddrS (.tmp 144) (.tmp 145) 1), some (142, false)⟩, []⟩,
    ⟨16, ⟨(some 147), .op (.load 1 false (.tmp 146)), some (142, false)⟩, []⟩,
    ⟨17, ⟨(some 148), .op (.mv (.tmp 5)), some (142, false)⟩, []⟩,
    ⟨18, ⟨(some 149), .op (.iaddrS (.tmp 147) (.tmp 148) 1), some (142, false)⟩, []⟩,
    ⟨19, ⟨(some 150), .op (.load 1 false (.tmp 149)), some (142, false)⟩, []⟩,
    ⟨21, ⟨(some 152), .op (.faddr (.tmp 1) 0), some (142, false)⟩, []⟩,
    ⟨22, ⟨(some 153), .op (.load 1 false (.tmp 152)), some (142, false)⟩, []⟩,
    ⟨23, ⟨(some 154), .op (.bin .add (.tmp 153) (.const (Value.int .i64 1))), some (142, false)⟩, []⟩,
    ⟨20, ⟨(some 151), .call (.func i_impl_size_L_int64) [(.tmp 150)], some (142, false)⟩, [22]⟩,
    ⟨24, ⟨(some 155), .op (.bin .neq (.tmp 151) (.tmp 154)), some (142, false)⟩, []⟩,
    ⟨25, ⟨(some 156), .op (.pick (.tmp 142) (.const (Value.bool true)) (.tmp 155)), none⟩, []⟩,
    ⟨26, ⟨(some 157), .op (.mv (.tmp 156)), none⟩, []⟩,
    ⟨27, ⟨(some 158), .op (.faddr (.tmp 1) 4), some (157, false)⟩, []⟩,
    ⟨28, ⟨(some 159), .op (.load 1 false (.tmp 158)), some (157, false)⟩, []⟩,
    ⟨29, ⟨(some 160), .op (.mv (.tmp 4)), some (157, false)⟩, []⟩,
    ⟨30, ⟨(some 161), .op (.iaddrS (.tmp 159) (.tmp 160) 1), some (157, false)⟩, []⟩,
    ⟨31, ⟨(some 162), .op (.load 1 false (.tmp 161)), some (157, false)⟩, []⟩,
    ⟨32, ⟨(some 163), .op (.mv (.tmp 5)), some (157, false)⟩, []⟩,
    ⟨33, ⟨(some 164), .op (.iaddrS (.tmp 162) (.tmp 163) 1), some (157, false)⟩, []⟩,
    ⟨34, ⟨(some 165), .op (.load 1 false (.tmp 164)), some (157, false)⟩, []⟩,
    ⟨35, ⟨(some 166), .op (.mkfn i_impl_ValidChoices_1 [(.tmp 3)]), some (157, false)⟩, []⟩,
    ⟨36, ⟨(some 167), .call (.func i_slices_ContainsFunc_L_L_int64) [(.tmp 165), (.tmp 166)], some (157, false)⟩, []⟩,
    ⟨37, ⟨(some 168), .op (.pick (.tmp 157) (.const (Value.bool true)) (.tmp 167)), none⟩, []⟩]
    [0, 1, 0, 7, 15, 0, 63, 127, 0, 511, 1023, 2047, 4095, 8191, 4095, 32767, 65535, 4095, 262143, 524287, 1048575, 4095, 2101247, 6295551, 16777215, 33554431, 67108863, 134217727, 268435455, 134217727, 1073741823, 2147483647, 134217727, 8589934591, 17179869183, 134217727, 68719476735, 137438953471]) (.kill [5, 131, 132, 133, 134, 135, 136, 137, 138, 139, 140, 141, 142, 143, 144, 145, 146, 147, 148, 149, 150, 151, 152, 153, 154, 155, 156, 157, 158, 159, 160, 161, 162, 163, 164, 165, 166, 167]))
  (.cond (.tmp 168) (.ghost (.kill [1, 3, 4, 48, 49, 77, 168]) (.seq (.reg [⟨(some 2), .op (.mv (.const (Value.bool false))), none⟩])
  .ret))
  (.ghost (.kill [168]) .skip)))))))
  (.post (.reg [⟨(some 169), .op (.bin .add (.tmp 77) (.const (Value.int .i64 1))), none⟩,
    ⟨(some 77), .op (.mv (.tmp 169)), none⟩]) (.kill [169]))))) .nv)
def lo_impl_ValidChoices_1 : AC := (.loop lb_impl_ValidChoices_1)
def lb_impl_ValidChoices_2 : AC := (.post (.seq (.reg [⟨(some 50), .op (.bin .lss (.tmp 49) (.tmp 48)), none⟩])
  (.seq (.cond (.tmp 50) (.ghost (.kill [50]) .skip)
  (.ghost (.kill [1, 3, 48, 49, 50]) (.exit 0)))
  (.seq (.block 1 (.seq (.post (.reg [⟨(some 51), .op (.mv (.tmp 49)), none⟩,
    ⟨(some 4), .op (.mv (.tmp 51)), none⟩]) (.kill [51]))
  (.seq (.seq (.post (.reg [⟨(some 52), .op (.faddr (.tmp 1) 3), none⟩,
    ⟨(some 53), .op (.load 1 false (.tmp 52)), none⟩,
    ⟨(some 54), .op (.mv (.tmp 4)), none⟩,
    ⟨(some 55), .op (.iaddrS (.tmp 53) (.tmp 54) 1), none⟩,
    ⟨(some 56), .op (.load 1 false (.tmp 55)), none⟩,
    ⟨(some 57), .op (.len false (.tmp 56)), none⟩,
    ⟨(some 58), .op (.bin .neq (.tmp 57) (.const (Value.int .i64 2))), none⟩,
    ⟨(some 59), .op (.mv (.tmp 58)), none⟩,
    ⟨(some 60), .op (.faddr (.tmp 1) 4), some (59, false)⟩,
    ⟨(some 61), .op (.load 1 false (.tmp 60)), some (59, false)⟩,
    ⟨(some 62), .op (.mv (.tmp 4)), some (59, false)⟩,
    ⟨(some 63), .op (.iaddrS (.tmp 61) (.tmp 62) 1), some (59, false)⟩,
    ⟨(some 64), .op (.load 1 false (.tmp 63)), some (59, false)⟩,
    ⟨(some 65), .op (.len false (.tmp 64)), some (59, false)⟩,
    ⟨(some 66), .op (.bin .neq (.tmp 65) (.const (Value.int .i64 2))), some (59, false)⟩,
    ⟨(some 67), .op (.pick (.tmp 59) (.const (Value.bool true)) (.tmp 66)), none⟩,
    ⟨(some 68), .op (.mv (.tmp 67)), none⟩,
    ⟨(some 69), .op (.faddr (.tmp 1) 5), some (68, false)⟩,
    ⟨(some 70), .op (.load 1 false (.tmp 69)), some (68, false)⟩,
    ⟨(some 71), .op (.mv (.tmp 4)), some (68, false)⟩,
    ⟨(some 72), .op (.iaddrS (.tmp 70) (.tmp 71) 1), some (68, false)⟩,
    ⟨(some 73), .op (.load 1 false (.tmp 72)), some (68, false)⟩,
    ⟨(some 74), .op (.len false (.tmp 73)), some (68, false)⟩,
    ⟨(some 75), .op (.bin .neq (.tmp 74) (.const (Value.int .i64 2))), some (68, false)⟩,
    ⟨(some 76), .op (.pick (.tmp 68) (.const (Value.bool true)) (.tmp 75)), none⟩]) (.kill [52, 53, 54, 55, 56, 57, 58, 59, 60, 61, 62, 63, 64, 65, 66, 67, 68, 69, 70, 71, 72, 73, 74, 75]))
  (.cond (.tmp 76) (.ghost (.kill [1, 3, 4, 48, 49, 76]) (.seq (.reg [⟨(some 2), .op (.mv (.const (Value.bool false))), none⟩])
  .ret))
  (.ghost (.kill [76]) .skip)))
  (.seq (.reg [⟨(some 77), .op (.mv (.const (Value.int .i64 0))), none⟩])
  (.post (.block 2 (.ghost .nv lo_impl_ValidChoices_1)) .nv)))))
  (.ghost (.kill [4, 77]) (.post (.reg [⟨(some 170), .op (.bin .add (.tmp 49) (.const (Value.int .i64 1))), none⟩,
    ⟨(some 49), .op (.mv (.tmp 170)), none⟩]) (.kill [170])))))) .nv)
def lo_impl_ValidChoices_2 : AC := (.loop lb_impl_ValidChoices_2)
def ac_impl_ValidChoices : AC := (.seq (.post (.reg [⟨(some 1), .op (.box true (.tmp 0)), none⟩,
    ⟨(some 2), .op (.mv (.const (Value.bool false))), none⟩]) (.kill [0, 2]))
  (.seq (.post (.reg [⟨(some 8), .op (.faddr (.tmp 1) 2), none⟩,
    ⟨(some 9), .op (.load 1 false (.tmp 8)), none⟩,
    ⟨(some 10), .call (.func i_impl_size_bool) [(.tmp 9)], none⟩,
    ⟨(some 3), .op (.alloc (Value.int .i64 0)), none⟩,
    ⟨none, .op (.store 1 (.tmp 3) (.tmp 10)), none⟩]) (.kill [8, 9, 10]))
  (.seq (.seq (.post (.draw [⟨0, ⟨(some 11), .op (.load 1 false (.tmp 3)), none⟩, []⟩,
    ⟨1, ⟨(some 12), .call (.func i_impl_within) [(.tmp 11), (.const (Value.int .i64 1)), (.const (Value.int .i64 5))], none⟩, []⟩,
    ⟨2, ⟨(some 13), .op (.un .not (.tmp 12)), none⟩, []⟩,
    ⟨3, ⟨(some 14), .op (.mv (.tmp 13)), none⟩, []⟩,
    ⟨4, ⟨(some 15), .op (.faddr (.tmp 1) 0), some (14, false)⟩, []⟩,
    ⟨5, ⟨(some 16), .op (.load 1 false (.tmp 15)), some (14, false)⟩, []⟩,
    ⟨6, ⟨(some 17), .call (.func i_impl_within) [(.tmp 16), (.const (Value.int .i64 1)), (.const (Value.int .i64 4))], some (14, false)⟩, []⟩,
    ⟨7, ⟨(some 18), .op (.un .not (.tmp 17)), some (14, false)⟩, []⟩,
    ⟨8, ⟨(some 19), .op (.pick (.tmp 14) (.const (Value.bool true)) (.tmp 18)), none⟩, []⟩,
    ⟨9, ⟨(some 20), .op (.mv (.tmp 19)), none⟩, []⟩,
    ⟨10, ⟨(some 21), .op (.faddr (.tmp 1) 1), some (20, false)⟩, []⟩,
    ⟨11, ⟨(some 22), .op (.load 1 false (.tmp 21)), some (20, false)⟩, []⟩,
    ⟨12, ⟨(some 23), .op (.load 1 false (.tmp 3)), some (20, false)⟩, []⟩,
    ⟨13, ⟨(some 24), .call (.func i_impl_isRising) [(.tmp 22), (.tmp 23)], some (20, false)⟩, []⟩,
    ⟨14, ⟨(some 25), .op (.un .not (.tmp 24)), some (20, false)⟩, []⟩,
    ⟨15, ⟨(some 26), .op (.pick (.tmp 20) (.const (Value.bool true)) (.tmp 25)), none⟩, []⟩,
    ⟨16, ⟨(some 27), .op (.mv (.tmp 26)), none⟩, []⟩,
    ⟨17, ⟨(some 28), .op (.faddr (.tmp 1) 3), some (27, false)⟩, []⟩,
    ⟨18, ⟨(some 29), .op (.load 1 false (.tmp 28)), some (27, false)⟩, []⟩,
    ⟨20, ⟨(some 31), .op (.load 1 false (.tmp 3)), some (27, false)⟩, []⟩,
    ⟨19, ⟨(some 30), .call (.func i_impl_size_L_L_impl_Push) [(.tmp 29)], some (27, false)⟩, [20]⟩,
    ⟨21, ⟨(some 32), .op (.bin .neq (.tmp 30) (.tmp 31)), some (27, false)⟩, []⟩,
    ⟨22, ⟨(some 33), .op (.pick (.tmp 27) (.const (Value.bool true)) (.tmp 32)), none⟩, []⟩,
    ⟨23, ⟨(some 34), .op (.mv (.tmp 33)), none⟩, []⟩,
    ⟨24, ⟨(some 35), .op (.faddr (.tmp 1) 4), some (34, false)⟩, []⟩,
    ⟨25, ⟨(some 36), .op (.load 1 false (.tmp 35)), some (34, false)⟩, []⟩,
    ⟨27, ⟨(some 38), .op (.load 1 false (.tmp 3)), some (34, false)⟩, []⟩,
    ⟨26, ⟨(some 37), .call (.func i_impl_size_L_L_L_int64) [(.tmp 36)], some (34, false)⟩, [27]⟩,
    ⟨28, ⟨(some 39), .op (.bin .neq (.tmp 37) (.tmp 38)), some (34, false)⟩, []⟩,
    ⟨29, ⟨(some 40), .op (.pick (.tmp 34) (.const (Value.bool true)) (.tmp 39)), none⟩, []⟩,
    ⟨30, ⟨(some 41), .op (.mv (.tmp 40)), none⟩, []⟩,
    ⟨31, ⟨(some 42), .op (.faddr (.tmp 1) 5), some (41, false)⟩, []⟩,
    ⟨32, ⟨(some 43), .op (.load 1 false (.tmp 42)), some (41, false)⟩, []⟩,
    ⟨34, ⟨(some 45), .op (.load 1 false (.tmp 3)), some (41, false)⟩, []⟩,
    ⟨33, ⟨(some 44), .call (.func i_impl_size_L_L_int64) [(.tmp 43)], some (41, false)⟩, [34]⟩,
    ⟨35, ⟨(some 46), .op (.bin .neq (.tmp 44) (.tmp 45)), some (41, false)⟩, []⟩,
    ⟨36, ⟨(some 47), .op (.pick (.tmp 41) (.const (Value.bool true)) (.tmp 46)), none⟩, []⟩]
    [0, 1, 3, 7, 15, 31, 63, 127, 255, 511, 1023, 2047, 1023, 8191, 16383, 32767, 65535, 131071, 262143, 524287, 131071, 2097151, 4194303, 8388607, 16777215, 33554431, 67108863, 16777215, 268435455, 536870911, 1073741823, 2147483647, 4294967295, 8589934591, 2147483647, 34359738367, 68719476735]) (.kill [11, 12, 13, 14, 15, 16, 17, 18, 19, 20, 21, 22, 23, 24, 25, 26, 27, 28, 29, 30, 31, 32, 33, 34, 35, 36, 37, 38, 39, 40, 41, 42, 43, 44, 45, 46]))
  (.cond (.tmp 47) (.ghost (.kill [1, 3, 47]) (.seq (.reg [⟨(some 2), .op (.mv (.const (Value.bool false))), none⟩])
  .ret))
  (.ghost (.kill [47]) .skip)))
  (.seq (.seq (.reg [⟨(some 48), .op (.load 1 false (.tmp 3)), none⟩,
    ⟨(some 49), .op (.mv (.const (Value.int .i64 0))), none⟩])
  (.post (.block 0 (.ghost .nv lo_impl_ValidChoices_2)) .nv))
  (.ghost (.kill [1, 3, 48, 49]) (.seq (.reg [⟨(some 2), .op (.mv (.const (Value.bool true))), none⟩])
  .ret))))))
theorem cf_impl_ValidChoices : chkFn Try.prog i_impl_ValidChoices ac_impl_ValidChoices [.tmp 2] 171 = true := by decide +kernel
def fa_impl_ValidChoices : FnA := ⟨ac_impl_ValidChoices, [.tmp 2], 171, false, true, [], .any, none⟩

/-- The checked code of impl isCall. -/
def ac_impl_isCall : AC := (.seq (.post (.reg [⟨(some 2), .op (.mv (.const (Value.bool false))), none⟩]) (.kill [2]))
  (.seq (.post (.reg [⟨(some 3), .op (.mv (.tmp 0)), none⟩,
    ⟨(some 4), .op (.bin .eql (.tmp 3) (.const (Value.int .u8 40))), none⟩,
    ⟨(some 5), .op (.mv (.tmp 4)), none⟩,
    ⟨(some 6), .op (.mv (.tmp 0)), some (5, false)⟩,
    ⟨(some 7), .op (.bin .eql (.tmp 6) (.const (Value.int .u8 91))), some (5, false)⟩,
    ⟨(some 8), .op (.pick (.tmp 5) (.const (Value.bool true)) (.tmp 7)), none⟩,
    ⟨(some 2), .op (.mv (.tmp 8)), none⟩]) (.kill [0, 3, 4, 5, 6, 7, 8]))
  .ret))
theorem cf_impl_isCall : chkFn Try.prog i_impl_isCall ac_impl_isCall [.tmp 2] 9 = true := by decide +kernel
def fa_impl_isCall : FnA := ⟨ac_impl_isCall, [.tmp 2], 9, false, true, [], .any, none⟩

/-- The checked code of impl isInner. -/
def ac_impl_isInner : AC := (.seq (.post (.reg [⟨(some 2), .op (.mv (.const (Value.bool false))), none⟩]) (.kill [2]))
  (.seq (.post (.reg [⟨(some 3), .op (.mv (.tmp 0)), none⟩,
    ⟨(some 4), .op (.bin .eql (.tmp 3) (.const (Value.int .u8 97))), none⟩,
    ⟨(some 5), .op (.mv (.tmp 4)), none⟩,
    ⟨(some 6), .op (.mv (.tmp 0)), some (5, false)⟩,
    ⟨(some 7), .op (.bin .eql (.tmp 6) (.const (Value.int .u8 98))), some (5, false)⟩,
    ⟨(some 8), .op (.pick (.tmp 5) (.const (Value.bool true)) (.tmp 7)), none⟩,
    ⟨(some 2), .op (.mv (.tmp 8)), none⟩]) (.kill [0, 3, 4, 5, 6, 7, 8]))
  .ret))
theorem cf_impl_isInner : chkFn Try.prog i_impl_isInner ac_impl_isInner [.tmp 2] 9 = true := by decide +kernel
def fa_impl_isInner : FnA := ⟨ac_impl_isInner, [.tmp 2], 9, false, true, [], .any, none⟩

/-- The checked code of impl Choices  same. -/
def lb_impl_Choices_same_0 : AC := (.post (.seq (.reg [⟨(some 10), .op (.bin .lss (.tmp 9) (.tmp 8)), none⟩])
  (.seq (.cond (.tmp 10) (.ghost (.kill [10]) .skip)
  (.ghost (.kill [8, 9, 10]) (.exit 0)))
  (.seq (.block 1 (.seq (.post (.reg [⟨(some 11), .op (.mv (.tmp 9)), none⟩,
    ⟨(some 4), .op (.mv (.tmp 11)), none⟩]) (.kill [11]))
  (.post (.reg [⟨(some 12), .op (.mv (.tmp 4)), none⟩,
    ⟨(some 13), .op (.mv (.tmp 4)), none⟩,
    ⟨(some 14), .op (.bin .shl (.const (Value.int .u64 1)) (.tmp 13)), none⟩,
    ⟨(some 15), .op (.iaddrA (.tmp 3) (.tmp 12) 5 1), none⟩,
    ⟨none, .op (.store 1 (.tmp 15) (.tmp 14)), none⟩]) (.kill [4, 12, 13, 14, 15]))))
  (.post (.reg [⟨(some 16), .op (.bin .add (.tmp 9) (.const (Value.int .i64 1))), none⟩,
    ⟨(some 9), .op (.mv (.tmp 16)), none⟩]) (.kill [16]))))) .nv)
def lo_impl_Choices_same_0 : AC := (.loop lb_impl_Choices_same_0)
def ac_impl_Choices_same : AC := (.seq (.post (.reg [⟨(some 1), .op (.box true (.tmp 0)), none⟩,
    ⟨(some 2), .op (.alloc (Value.agg #[Value.int .u64 0, Value.int .u64 0, Value.int .u64 0, Value.int .u64 0, Value.int .u64 0])), none⟩]) (.kill [0]))
  (.seq (.post (.reg [⟨(some 5), .op (.build [Value.int .u64 0, Value.int .u64 0, Value.int .u64 0, Value.int .u64 0, Value.int .u64 0] []), none⟩,
    ⟨(some 3), .op (.alloc (Value.agg #[Value.int .u64 0, Value.int .u64 0, Value.int .u64 0, Value.int .u64 0, Value.int .u64 0])), none⟩,
    ⟨none, .op (.store 5 (.tmp 3) (.tmp 5)), none⟩]) (.kill [5]))
  (.seq (.seq (.post (.reg [⟨(some 6), .op (.faddr (.tmp 1) 2), none⟩,
    ⟨(some 7), .op (.load 1 false (.tmp 6)), none⟩,
    ⟨(some 8), .op (.len false (.tmp 7)), none⟩,
    ⟨(some 9), .op (.mv (.const (Value.int .i64 0))), none⟩]) (.kill [1, 6, 7]))
  (.post (.block 0 (.ghost .nv lo_impl_Choices_same_0)) .nv))
  (.ghost (.kill [8, 9]) (.seq (.post (.reg [⟨(some 17), .op (.load 5 true (.tmp 3)), none⟩,
    ⟨none, .op (.store 5 (.tmp 2) (.tmp 17)), none⟩]) (.kill [3, 17]))
  .ret)))))
theorem cf_impl_Choices_same : chkFn Try.prog i_impl_Choices_same ac_impl_Choices_same [.cell 2 5 true] 18 = true := by decide +kernel
def fa_impl_Choices_same : FnA := ⟨ac_impl_Choices_same, [.cell 2 5 true], 18, false, true, [], .any, none⟩

/-- The checked code of impl bits. -/
def lb_impl_bits_0 : AC := (.seq (.reg [⟨(some 9), .op (.bin .lss (.tmp 8) (.tmp 7)), none⟩])
  (.seq (.cond (.tmp 9) (.ghost (.kill [9]) .skip)
  (.ghost (.kill [6, 7, 8, 9]) (.exit 0)))
  (.seq (.block 1 (.seq (.post (.reg [⟨(some 10), .op (.iaddrS (.tmp 6) (.tmp 8) 1), none⟩,
    ⟨(some 11), .op (.load 1 false (.tmp 10)), none⟩,
    ⟨(some 5), .op (.mv (.tmp 11)), none⟩]) (.kill [10, 11]))
  (.post (.reg [⟨(some 12), .op (.mv (.tmp 3)), none⟩,
    ⟨(some 13), .op (.mv (.tmp 5)), none⟩,
    ⟨(some 14), .op (.bin .shl (.const (Value.int .u64 1)) (.tmp 13)), none⟩,
    ⟨(some 15), .op (.bin .or (.tmp 12) (.tmp 14)), none⟩,
    ⟨(some 3), .op (.mv (.tmp 15)), none⟩]) (.kill [5, 12, 13, 14, 15]))))
  (.post (.reg [⟨(some 16), .op (.bin .add (.tmp 8) (.const (Value.int .i64 1))), none⟩,
    ⟨(some 8), .op (.mv (.tmp 16)), none⟩]) (.kill [16])))))
def lo_impl_bits_0 : AC := (.loop lb_impl_bits_0)
def ac_impl_bits : AC := (.seq (.post (.reg [⟨(some 2), .op (.mv (.const (Value.int .u64 0))), none⟩]) (.kill [2]))
  (.seq (.reg [⟨(some 3), .op (.mv (.const (Value.int .u64 0))), none⟩])
  (.seq (.seq (.post (.reg [⟨(some 6), .op (.mv (.tmp 0)), none⟩,
    ⟨(some 7), .op (.len false (.tmp 6)), none⟩,
    ⟨(some 8), .op (.mv (.const (Value.int .i64 0))), none⟩]) (.kill [0]))
  (.block 0 lo_impl_bits_0))
  (.ghost (.kill [6, 7, 8]) (.seq (.post (.reg [⟨(some 17), .op (.mv (.tmp 3)), none⟩,
    ⟨(some 2), .op (.mv (.tmp 17)), none⟩]) (.kill [3, 17]))
  .ret)))))
theorem cf_impl_bits : chkFn Try.prog i_impl_bits ac_impl_bits [.tmp 2] 18 = true := by decide +kernel
def fa_impl_bits : FnA := ⟨ac_impl_bits, [.tmp 2], 18, false, true, [], .any, none⟩

/-- The checked code of impl Choices  start. -/
def ac_impl_Choices_start : AC := (.seq (.post (.reg [⟨(some 1), .op (.box true (.tmp 0)), none⟩,
    ⟨(some 2), .op (.alloc (Value.agg #[Value.int .u64 0, Value.int .u64 0, Value.int .u64 0, Value.int .u64 0, Value.int .u64 0, Value.int .u64 0])), none⟩]) (.kill [0]))
  (.seq (.post (.draw [⟨0, ⟨(some 3), .op (.load 6 true (.tmp 1)), none⟩, []⟩,
    ⟨2, ⟨(some 5), .op (.faddr (.tmp 1) 1), none⟩, []⟩,
    ⟨3, ⟨(some 6), .op (.load 1 false (.tmp 5)), none⟩, []⟩,
    ⟨1, ⟨(some 4), .call (.func i_impl_Choices_same) [(.tmp 3)], none⟩, [3]⟩,
    ⟨4, ⟨(some 7), .call (.func i_impl_bits) [(.tmp 6)], none⟩, []⟩,
    ⟨5, ⟨(some 8), .op (.build [Value.int .u64 0, Value.int .u64 0, Value.int .u64 0, Value.int .u64 0, Value.int .u64 0, Value.int .u64 0] [(0, 5, (.tmp 4)), (5, 1, (.tmp 7))]), none⟩, []⟩,
    ⟨6, ⟨none, .op (.store 6 (.tmp 2) (.tmp 8)), none⟩, []⟩]
    [0, 1, 0, 4, 15, 31, 63]) (.kill [1, 3, 4, 5, 6, 7, 8]))
  .ret))
theorem cf_impl_Choices_start : chkFn Try.prog i_impl_Choices_start ac_impl_Choices_start [.cell 2 6 true] 9 = true := by decide +kernel
def fa_impl_Choices_start : FnA := ⟨ac_impl_Choices_start, [.cell 2 6 true], 9, false, true, [], .any, none⟩

/-- The checked code of impl kindOf. -/
def ac_impl_kindOf : AC := (.seq (.post (.reg [⟨(some 2), .op (.mv (.const (Value.int .i64 0))), none⟩]) (.kill [2]))
  (.seq (.post (.reg [⟨(some 3), .op (.mv (.tmp 0)), none⟩,
    ⟨(some 4), .call (.func i_strings_IndexByte) [(.const (Value.string ⟨#[40, 91, 41, 93, 97, 98]⟩)), (.tmp 3)], none⟩,
    ⟨(some 5), .op (.bin .rem (.tmp 4) (.const (Value.int .i64 2))), none⟩,
    ⟨(some 2), .op (.mv (.tmp 5)), none⟩]) (.kill [0, 3, 4, 5]))
  .ret))
theorem cf_impl_kindOf : chkFn Try.prog i_impl_kindOf ac_impl_kindOf [.tmp 2] 6 = true := by decide +kernel
def fa_impl_kindOf : FnA := ⟨ac_impl_kindOf, [.tmp 2], 6, false, true, [], .any, none⟩

/-- The checked code of impl states. -/
def lb_impl_states_0 : AC := (.post (.seq (.seq (.post (.reg [⟨(some 6), .op (.mv (.tmp 0)), none⟩,
    ⟨(some 7), .op (.mv (.tmp 4)), none⟩,
    ⟨(some 8), .op (.bin .shr (.tmp 6) (.tmp 7)), none⟩,
    ⟨(some 9), .op (.bin .gtr (.tmp 8) (.const (Value.int .u64 0))), none⟩]) (.kill [6, 7, 8]))
  (.cond (.tmp 9) (.ghost (.kill [9]) .skip)
  (.ghost (.kill [0, 4, 9]) (.exit 0))))
  (.seq (.block 1 (.seq (.post (.reg [⟨(some 12), .op (.mv (.tmp 0)), none⟩,
    ⟨(some 13), .op (.mv (.tmp 4)), none⟩,
    ⟨(some 14), .op (.bin .shr (.tmp 12) (.tmp 13)), none⟩,
    ⟨(some 15), .op (.bin .and (.tmp 14) (.const (Value.int .u64 1))), none⟩,
    ⟨(some 16), .op (.bin .eql (.tmp 15) (.const (Value.int .u64 1))), none⟩]) (.kill [12, 13, 14, 15]))
  (.cond (.tmp 16) (.ghost (.kill [16]) (.post (.post (.reg [⟨(some 17), .op (.mv (.tmp 3)), none⟩,
    ⟨(some 18), .op (.mv (.tmp 4)), none⟩,
    ⟨(some 19), .op (.lits true 1 1 (Value.int .i64 0) [(0, (.tmp 18))]), none⟩,
    ⟨(some 20), .op (.append (.tmp 17) (.tmp 19) 1 8), none⟩,
    ⟨(some 3), .op (.mv (.tmp 20)), none⟩]) (.kill [17, 18, 19, 20])) .nv))
  (.ghost (.kill [16]) .skip))))
  (.post (.reg [⟨(some 10), .op (.mv (.tmp 4)), none⟩,
    ⟨(some 11), .op (.bin .add (.tmp 10) (.const (Value.int .i64 1))), none⟩,
    ⟨(some 4), .op (.mv (.tmp 11)), none⟩]) (.kill [10, 11])))) .nv)
def lo_impl_states_0 : AC := (.loop lb_impl_states_0)
def ac_impl_states : AC := (.seq (.post (.reg [⟨(some 2), .op (.mv (.const (Value.slice none 0 0))), none⟩]) (.kill [2]))
  (.seq (.post (.reg [⟨(some 5), .op (.lits true 1 0 (Value.int .i64 0) []), none⟩,
    ⟨(some 3), .op (.mv (.tmp 5)), none⟩]) (.kill [5]))
  (.seq (.seq (.reg [⟨(some 4), .op (.mv (.const (Value.int .i64 0))), none⟩])
  (.post (.block 0 (.ghost (.ow 3 none 1) (.ghost .nv lo_impl_states_0))) .nv))
  (.ghost (.kill [0, 4]) (.seq (.post (.reg [⟨(some 21), .op (.mv (.tmp 3)), none⟩,
    ⟨(some 2), .op (.mv (.tmp 21)), none⟩]) (.kill [3, 21]))
  .ret)))))
theorem cf_impl_states : chkFn Try.prog i_impl_states ac_impl_states [.tmp 2] 22 = true := by decide +kernel
def fa_impl_states : FnA := ⟨ac_impl_states, [.tmp 2], 22, false, false, [], .any, none⟩

/-- The checked code of impl all. -/
def lb_impl_all_0 : AC := (.seq (.reg [⟨(some 12), .op (.bin .lss (.tmp 11) (.tmp 10)), none⟩])
  (.seq (.cond (.tmp 12) (.ghost (.kill [12]) .skip)
  (.ghost (.kill [1, 9, 10, 11, 12]) (.exit 0)))
  (.seq (.block 1 (.seq (.post (.reg [⟨(some 13), .op (.iaddrS (.tmp 9) (.tmp 11) 1), none⟩,
    ⟨(some 14), .op (.load 1 false (.tmp 13)), none⟩,
    ⟨(some 7), .op (.mv (.tmp 14)), none⟩]) (.kill [13, 14]))
  (.post (.reg [⟨(some 15), .op (.mv (.tmp 5)), none⟩,
    ⟨(some 16), .op (.mv (.tmp 1)), none⟩,
    ⟨(some 17), .op (.mv (.tmp 7)), none⟩,
    ⟨(some 18), .call (.tmp 16) [(.tmp 17)], none⟩,
    ⟨(some 19), .op (.bin .or (.tmp 15) (.tmp 18)), none⟩,
    ⟨(some 5), .op (.mv (.tmp 19)), none⟩]) (.kill [7, 15, 16, 17, 18, 19]))))
  (.post (.reg [⟨(some 20), .op (.bin .add (.tmp 11) (.const (Value.int .i64 1))), none⟩,
    ⟨(some 11), .op (.mv (.tmp 20)), none⟩]) (.kill [20])))))
def lo_impl_all_0 : AC := (.loop lb_impl_all_0)
def ac_impl_all : AC := (.seq (.post (.reg [⟨(some 4), .op (.mv (.const (Value.int .u64 0))), none⟩]) (.kill [4]))
  (.seq (.reg [⟨(some 5), .op (.mv (.const (Value.int .u64 0))), none⟩])
  (.seq (.seq (.post (.reg [⟨(some 8), .op (.mv (.tmp 0)), none⟩,
    ⟨(some 9), .call (.func i_impl_states) [(.tmp 8)], none⟩,
    ⟨(some 10), .op (.len false (.tmp 9)), none⟩,
    ⟨(some 11), .op (.mv (.const (Value.int .i64 0))), none⟩]) (.kill [0, 8]))
  (.block 0 lo_impl_all_0))
  (.ghost (.kill [1, 9, 10, 11]) (.seq (.post (.reg [⟨(some 21), .op (.mv (.tmp 5)), none⟩,
    ⟨(some 4), .op (.mv (.tmp 21)), none⟩]) (.kill [5, 21]))
  .ret)))))
theorem cf_impl_all : chkFn Try.prog i_impl_all ac_impl_all [.tmp 4] 22 = true := by decide +kernel
def fa_impl_all : FnA := ⟨ac_impl_all, [.tmp 4], 22, false, true, [], .any, none⟩

/-- The checked code of impl Choices  call 1. -/
def lb_impl_Choices_call_1_0 : AC := (.post (.seq (.reg [⟨(some 18), .op (.bin .lss (.tmp 17) (.tmp 16)), none⟩])
  (.seq (.cond (.tmp 18) (.ghost (.kill [18]) .skip)
  (.ghost (.kill [15, 16, 17, 18]) (.exit 0)))
  (.seq (.block 1 (.seq (.post (.reg [⟨(some 19), .op (.iaddrS (.tmp 15) (.tmp 17) 2), none⟩,
    ⟨(some 20), .op (.load 2 true (.tmp 19)), none⟩,
    ⟨(some 7), .op (.alloc (Value.agg #[Value.int .i64 0, Value.int .i64 0])), none⟩,
    ⟨none, .op (.store 2 (.tmp 7) (.tmp 20)), none⟩]) (.kill [19, 20]))
  (.post (.reg [⟨(some 21), .op (.mv (.tmp 5)), none⟩,
    ⟨(some 22), .op (.faddr (.tmp 7) 0), none⟩,
    ⟨(some 23), .op (.load 1 false (.tmp 22)), none⟩,
    ⟨(some 24), .op (.bin .shl (.const (Value.int .u64 1)) (.tmp 23)), none⟩,
    ⟨(some 25), .op (.bin .or (.tmp 21) (.tmp 24)), none⟩,
    ⟨(some 5), .op (.mv (.tmp 25)), none⟩]) (.kill [7, 21, 22, 23, 24, 25]))))
  (.post (.reg [⟨(some 26), .op (.bin .add (.tmp 17) (.const (Value.int .i64 1))), none⟩,
    ⟨(some 17), .op (.mv (.tmp 26)), none⟩]) (.kill [26]))))) .nv)
def lo_impl_Choices_call_1_0 : AC := (.loop lb_impl_Choices_call_1_0)
def ac_impl_Choices_call_1 : AC := (.seq (.post (.reg [⟨(some 4), .op (.mv (.const (Value.int .u64 0))), none⟩]) (.kill [4]))
  (.seq (.reg [⟨(some 5), .op (.mv (.const (Value.int .u64 0))), none⟩])
  (.seq (.seq (.post (.draw [⟨0, ⟨(some 8), .op (.faddr (.tmp 1) 3), none⟩, []⟩,
    ⟨1, ⟨(some 9), .op (.load 1 false (.tmp 8)), none⟩, []⟩,
    ⟨2, ⟨(some 10), .op (.mv (.tmp 0)), none⟩, []⟩,
    ⟨3, ⟨(some 11), .op (.iaddrS (.tmp 9) (.tmp 10) 1), none⟩, []⟩,
    ⟨4, ⟨(some 12), .op (.load 1 false (.tmp 11)), none⟩, []⟩,
    ⟨5, ⟨(some 13), .op (.load 1 false (.tmp 2)), none⟩, []⟩,
    ⟨6, ⟨(some 14), .op (.iaddrS (.tmp 12) (.tmp 13) 1), none⟩, []⟩,
    ⟨7, ⟨(some 15), .op (.load 1 false (.tmp 14)), none⟩, []⟩,
    ⟨8, ⟨(some 16), .op (.len false (.tmp 15)), none⟩, []⟩,
    ⟨9, ⟨(some 17), .op (.mv (.const (Value.int .i64 0))), none⟩, []⟩]
    [0, 1, 0, 7, 15, 0, 63, 127, 255, 0]) (.kill [0, 1, 2, 8, 9, 10, 11, 12, 13, 14]))
  (.post (.block 0 (.ghost .nv lo_impl_Choices_call_1_0)) .nv))
  (.ghost (.kill [15, 16, 17]) (.seq (.post (.reg [⟨(some 27), .op (.mv (.tmp 5)), none⟩,
    ⟨(some 4), .op (.mv (.tmp 27)), none⟩]) (.kill [5, 27]))
  .ret)))))
theorem cf_impl_Choices_call_1 : chkFn Try.prog i_impl_Choices_call_1 ac_impl_Choices_call_1 [.tmp 4] 28 = true := by decide +kernel
def fa_impl_Choices_call_1 : FnA := ⟨ac_impl_Choices_call_1, [.tmp 4], 28, false, true, [], .any, none⟩

/-- The checked code of impl Choices  call. -/
def ac_impl_Choices_call : AC := (.seq (.post (.reg [⟨(some 3), .op (.box true (.tmp 0)), none⟩,
    ⟨(some 4), .op (.box true (.tmp 1)), none⟩,
    ⟨(some 5), .op (.box true (.tmp 2)), none⟩,
    ⟨(some 6), .op (.alloc (Value.agg #[Value.int .u64 0, Value.int .u64 0, Value.int .u64 0, Value.int .u64 0, Value.int .u64 0, Value.int .u64 0])), none⟩]) (.kill [0, 1, 2]))
  (.seq (.post (.draw [⟨0, ⟨(some 7), .op (.load 6 true (.tmp 3)), none⟩, []⟩,
    ⟨2, ⟨(some 9), .op (.faddr (.tmp 4) 5), none⟩, []⟩,
    ⟨3, ⟨(some 10), .op (.load 1 false (.tmp 9)), none⟩, []⟩,
    ⟨4, ⟨(some 11), .op (.mkfn i_impl_Choices_call_1 [(.tmp 3), (.tmp 5)]), none⟩, []⟩,
    ⟨1, ⟨(some 8), .call (.func i_impl_Choices_same) [(.tmp 7)], none⟩, [3]⟩,
    ⟨5, ⟨(some 12), .call (.func i_impl_all) [(.tmp 10), (.tmp 11)], none⟩, []⟩,
    ⟨6, ⟨(some 13), .op (.build [Value.int .u64 0, Value.int .u64 0, Value.int .u64 0, Value.int .u64 0, Value.int .u64 0, Value.int .u64 0] [(0, 5, (.tmp 8)), (5, 1, (.tmp 12))]), none⟩, []⟩,
    ⟨7, ⟨none, .op (.store 6 (.tmp 6) (.tmp 13)), none⟩, []⟩]
    [0, 1, 0, 4, 0, 31, 63, 127]) (.kill [3, 4, 5, 7, 8, 9, 10, 11, 12, 13]))
  .ret))
theorem cf_impl_Choices_call : chkFn Try.prog i_impl_Choices_call ac_impl_Choices_call [.cell 6 6 true] 14 = true := by decide +kernel
def fa_impl_Choices_call : FnA := ⟨ac_impl_Choices_call, [.cell 6 6 true], 14, false, true, [], .any, none⟩

/-- The checked code of impl Choices  inner 1. -/
def ac_impl_Choices_inner_1 : AC := (.seq (.post (.reg [⟨(some 4), .op (.mv (.const (Value.int .u64 0))), none⟩]) (.kill [4]))
  (.seq (.post (.draw [⟨0, ⟨(some 5), .op (.faddr (.tmp 1) 5), none⟩, []⟩,
    ⟨1, ⟨(some 6), .op (.load 1 false (.tmp 5)), none⟩, []⟩,
    ⟨2, ⟨(some 7), .op (.mv (.tmp 0)), none⟩, []⟩,
    ⟨3, ⟨(some 8), .op (.iaddrS (.tmp 6) (.tmp 7) 1), none⟩, []⟩,
    ⟨4, ⟨(some 9), .op (.load 1 false (.tmp 8)), none⟩, []⟩,
    ⟨5, ⟨(some 10), .op (.load 1 false (.tmp 2)), none⟩, []⟩,
    ⟨6, ⟨(some 11), .op (.iaddrS (.tmp 9) (.tmp 10) 1), none⟩, []⟩,
    ⟨7, ⟨(some 12), .op (.load 1 false (.tmp 11)), none⟩, []⟩,
    ⟨8, ⟨(some 13), .call (.func i_impl_bits) [(.tmp 12)], none⟩, []⟩,
    ⟨9, ⟨(some 4), .op (.mv (.tmp 13)), none⟩, []⟩]
    [0, 1, 0, 7, 15, 0, 63, 127, 255, 511]) (.kill [0, 1, 2, 5, 6, 7, 8, 9, 10, 11, 12, 13]))
  .ret))
theorem cf_impl_Choices_inner_1 : chkFn Try.prog i_impl_Choices_inner_1 ac_impl_Choices_inner_1 [.tmp 4] 14 = true := by decide +kernel
def fa_impl_Choices_inner_1 : FnA := ⟨ac_impl_Choices_inner_1, [.tmp 4], 14, false, true, [], .any, none⟩

/-- The checked code of impl Choices  inner. -/
def lb_impl_Choices_inner_0 : AC := (.post (.seq (.reg [⟨(some 14), .op (.bin .lss (.tmp 13) (.const (Value.int .i64 5))), none⟩])
  (.seq (.cond (.tmp 14) (.ghost (.kill [14]) .skip)
  (.ghost (.kill [12, 13, 14]) (.exit 0)))
  (.seq (.block 1 (.seq (.post (.reg [⟨(some 15), .op (.mv (.tmp 13)), none⟩,
    ⟨(some 16), .op (.idxArr (.tmp 12) (.tmp 13) 5 1 false), none⟩,
    ⟨(some 8), .op (.mv (.tmp 15)), none⟩,
    ⟨(some 9), .op (.mv (.tmp 16)), none⟩]) (.kill [15, 16]))
  (.post (.reg [⟨(some 17), .op (.mv (.tmp 8)), none⟩,
    ⟨(some 18), .op (.mv (.tmp 9)), none⟩,
    ⟨(some 19), .op (.mv (.tmp 7)), none⟩,
    ⟨(some 20), .call (.func i_impl_all) [(.tmp 18), (.tmp 19)], none⟩,
    ⟨(some 21), .op (.faddr (.tmp 4) 0), none⟩,
    ⟨(some 22), .op (.iaddrA (.tmp 21) (.tmp 17) 5 1), none⟩,
    ⟨none, .op (.store 1 (.tmp 22) (.tmp 20)), none⟩]) (.kill [8, 9, 17, 18, 19, 20, 21, 22]))))
  (.post (.reg [⟨(some 23), .op (.bin .add (.tmp 13) (.const (Value.int .i64 1))), none⟩,
    ⟨(some 13), .op (.mv (.tmp 23)), none⟩]) (.kill [23]))))) .nv)
def lo_impl_Choices_inner_0 : AC := (.loop lb_impl_Choices_inner_0)
def ac_impl_Choices_inner : AC := (.seq (.post (.reg [⟨(some 3), .op (.box true (.tmp 0)), none⟩,
    ⟨(some 4), .op (.box false (.tmp 1)), none⟩,
    ⟨(some 5), .op (.box true (.tmp 2)), none⟩,
    ⟨(some 6), .op (.alloc (Value.agg #[Value.int .u64 0, Value.int .u64 0, Value.int .u64 0, Value.int .u64 0, Value.int .u64 0, Value.int .u64 0])), none⟩]) (.kill [0, 1, 2]))
  (.seq (.post (.reg [⟨(some 10), .op (.mkfn i_impl_Choices_inner_1 [(.tmp 3), (.tmp 5)]), none⟩,
    ⟨(some 7), .op (.mv (.tmp 10)), none⟩]) (.kill [3, 5, 10]))
  (.seq (.seq (.post (.reg [⟨(some 11), .op (.faddr (.tmp 4) 0), none⟩,
    ⟨(some 12), .op (.load 5 true (.tmp 11)), none⟩,
    ⟨(some 13), .op (.mv (.const (Value.int .i64 0))), none⟩]) (.kill [11]))
  (.post (.block 0 (.ghost .nv lo_impl_Choices_inner_0)) .nv))
  (.ghost (.kill [12, 13]) (.seq (.post (.reg [⟨(some 24), .op (.faddr (.tmp 4) 5), none⟩,
    ⟨(some 25), .op (.load 1 false (.tmp 24)), none⟩,
    ⟨(some 26), .op (.mv (.tmp 7)), none⟩,
    ⟨(some 27), .call (.func i_impl_all) [(.tmp 25), (.tmp 26)], none⟩,
    ⟨(some 28), .op (.faddr (.tmp 4) 5), none⟩,
    ⟨none, .op (.store 1 (.tmp 28) (.tmp 27)), none⟩]) (.kill [7, 24, 25, 26, 27, 28]))
  (.seq (.post (.reg [⟨(some 29), .op (.load 6 true (.tmp 4)), none⟩,
    ⟨none, .op (.store 6 (.tmp 6) (.tmp 29)), none⟩]) (.kill [4, 29]))
  .ret))))))
theorem cf_impl_Choices_inner : chkFn Try.prog i_impl_Choices_inner ac_impl_Choices_inner [.cell 6 6 true] 30 = true := by decide +kernel
def fa_impl_Choices_inner : FnA := ⟨ac_impl_Choices_inner, [.cell 6 6 true], 30, false, true, [], .any, none⟩

/-- The checked code of impl Choices  free 1. -/
def ac_impl_Choices_free_1 : AC := (.seq (.post (.reg [⟨(some 4), .op (.mv (.const (Value.int .u64 0))), none⟩]) (.kill [4]))
  (.seq (.post (.draw [⟨0, ⟨(some 5), .op (.faddr (.tmp 1) 4), none⟩, []⟩,
    ⟨1, ⟨(some 6), .op (.load 1 false (.tmp 5)), none⟩, []⟩,
    ⟨2, ⟨(some 7), .op (.mv (.tmp 0)), none⟩, []⟩,
    ⟨3, ⟨(some 8), .op (.iaddrS (.tmp 6) (.tmp 7) 1), none⟩, []⟩,
    ⟨4, ⟨(some 9), .op (.load 1 false (.tmp 8)), none⟩, []⟩,
    ⟨5, ⟨(some 10), .op (.load 1 false (.tmp 2)), none⟩, []⟩,
    ⟨6, ⟨(some 11), .op (.iaddrS (.tmp 9) (.tmp 10) 1), none⟩, []⟩,
    ⟨7, ⟨(some 12), .op (.load 1 false (.tmp 11)), none⟩, []⟩,
    ⟨8, ⟨(some 13), .op (.faddr (.tmp 1) 0), none⟩, []⟩,
    ⟨9, ⟨(some 14), .op (.load 1 false (.tmp 13)), none⟩, []⟩,
    ⟨10, ⟨(some 15), .op (.iaddrS (.tmp 12) (.tmp 14) 1), none⟩, []⟩,
    ⟨11, ⟨(some 16), .op (.load 1 false (.tmp 15)), none⟩, []⟩,
    ⟨12, ⟨(some 17), .call (.func i_impl_bits) [(.tmp 16)], none⟩, []⟩,
    ⟨13, ⟨(some 4), .op (.mv (.tmp 17)), none⟩, []⟩]
    [0, 1, 0, 7, 15, 0, 63, 127, 0, 256, 1023, 2047, 4095, 8191]) (.kill [0, 1, 2, 5, 6, 7, 8, 9, 10, 11, 12, 13, 14, 15, 16, 17]))
  .ret))
theorem cf_impl_Choices_free_1 : chkFn Try.prog i_impl_Choices_free_1 ac_impl_Choices_free_1 [.tmp 4] 18 = true := by decide +kernel
def fa_impl_Choices_free_1 : FnA := ⟨ac_impl_Choices_free_1, [.tmp 4], 18, false, true, [], .any, none⟩

/-- The checked code of impl Choices  free. -/
def ac_impl_Choices_free : AC := (.seq (.post (.reg [⟨(some 3), .op (.box true (.tmp 0)), none⟩,
    ⟨(some 4), .op (.box true (.tmp 1)), none⟩,
    ⟨(some 5), .op (.box true (.tmp 2)), none⟩,
    ⟨(some 6), .op (.alloc (Value.agg #[Value.int .u64 0, Value.int .u64 0, Value.int .u64 0, Value.int .u64 0, Value.int .u64 0, Value.int .u64 0])), none⟩]) (.kill [0, 1, 2]))
  (.seq (.post (.draw [⟨0, ⟨(some 7), .op (.load 6 true (.tmp 3)), none⟩, []⟩,
    ⟨2, ⟨(some 9), .op (.faddr (.tmp 4) 5), none⟩, []⟩,
    ⟨3, ⟨(some 10), .op (.load 1 false (.tmp 9)), none⟩, []⟩,
    ⟨4, ⟨(some 11), .op (.mkfn i_impl_Choices_free_1 [(.tmp 3), (.tmp 5)]), none⟩, []⟩,
    ⟨1, ⟨(some 8), .call (.func i_impl_Choices_same) [(.tmp 7)], none⟩, [3]⟩,
    ⟨5, ⟨(some 12), .call (.func i_impl_all) [(.tmp 10), (.tmp 11)], none⟩, []⟩,
    ⟨6, ⟨(some 13), .op (.build [Value.int .u64 0, Value.int .u64 0, Value.int .u64 0, Value.int .u64 0, Value.int .u64 0, Value.int .u64 0] [(0, 5, (.tmp 8)), (5, 1, (.tmp 12))]), none⟩, []⟩,
    ⟨7, ⟨none, .op (.store 6 (.tmp 6) (.tmp 13)), none⟩, []⟩]
    [0, 1, 0, 4, 0, 31, 63, 127]) (.kill [3, 4, 5, 7, 8, 9, 10, 11, 12, 13]))
  .ret))
theorem cf_impl_Choices_free : chkFn Try.prog i_impl_Choices_free ac_impl_Choices_free [.cell 6 6 true] 14 = true := by decide +kernel
def fa_impl_Choices_free : FnA := ⟨ac_impl_Choices_free, [.cell 6 6 true], 14, false, true, [], .any, none⟩

/-- The checked code of impl Choices  back 1 1. -/
def ac_impl_Choices_back_1_1 : AC := (.seq (.post (.reg [⟨(some 5), .op (.mv (.const (Value.int .u64 0))), none⟩]) (.kill [5]))
  (.seq (.post (.draw [⟨0, ⟨(some 6), .op (.faddr (.tmp 1) 4), none⟩, []⟩,
    ⟨1, ⟨(some 7), .op (.load 1 false (.tmp 6)), none⟩, []⟩,
    ⟨2, ⟨(some 8), .op (.mv (.tmp 0)), none⟩, []⟩,
    ⟨3, ⟨(some 9), .op (.iaddrS (.tmp 7) (.tmp 8) 1), none⟩, []⟩,
    ⟨4, ⟨(some 10), .op (.load 1 false (.tmp 9)), none⟩, []⟩,
    ⟨5, ⟨(some 11), .op (.load 1 false (.tmp 2)), none⟩, []⟩,
    ⟨6, ⟨(some 12), .op (.iaddrS (.tmp 10) (.tmp 11) 1), none⟩, []⟩,
    ⟨7, ⟨(some 13), .op (.load 1 false (.tmp 12)), none⟩, []⟩,
    ⟨8, ⟨(some 14), .op (.faddr (.tmp 3) 1), none⟩, []⟩,
    ⟨9, ⟨(some 15), .op (.load 1 false (.tmp 14)), none⟩, []⟩,
    ⟨10, ⟨(some 16), .op (.iaddrS (.tmp 13) (.tmp 15) 1), none⟩, []⟩,
    ⟨11, ⟨(some 17), .op (.load 1 false (.tmp 16)), none⟩, []⟩,
    ⟨12, ⟨(some 18), .call (.func i_impl_bits) [(.tmp 17)], none⟩, []⟩,
    ⟨13, ⟨(some 5), .op (.mv (.tmp 18)), none⟩, []⟩]
    [0, 1, 0, 7, 15, 0, 63, 127, 0, 256, 1023, 2047, 4095, 8191]) (.kill [0, 1, 2, 3, 6, 7, 8, 9, 10, 11, 12, 13, 14, 15, 16, 17, 18]))
  .ret))
theorem cf_impl_Choices_back_1_1 : chkFn Try.prog i_impl_Choices_back_1_1 ac_impl_Choices_back_1_1 [.tmp 5] 19 = true := by decide +kernel
def fa_impl_Choices_back_1_1 : FnA := ⟨ac_impl_Choices_back_1_1, [.tmp 5], 19, false, true, [], .any, none⟩

/-- The checked code of impl Choices  back 1. -/
def lb_impl_Choices_back_1_0 : AC := (.post (.seq (.reg [⟨(some 20), .op (.bin .lss (.tmp 19) (.tmp 18)), none⟩])
  (.seq (.cond (.tmp 20) (.ghost (.kill [20]) .skip)
  (.ghost (.kill [1, 3, 4, 17, 18, 19, 20]) (.exit 0)))
  (.seq (.block 1 (.seq (.post (.reg [⟨(some 21), .op (.iaddrS (.tmp 17) (.tmp 19) 2), none⟩,
    ⟨(some 22), .op (.load 2 true (.tmp 21)), none⟩,
    ⟨(some 9), .op (.alloc (Value.agg #[Value.int .i64 0, Value.int .i64 0])), none⟩,
    ⟨none, .op (.store 2 (.tmp 9) (.tmp 22)), none⟩]) (.kill [21, 22]))
  (.post (.reg [⟨(some 23), .op (.mv (.tmp 7)), none⟩,
    ⟨(some 24), .op (.faddr (.tmp 9) 0), none⟩,
    ⟨(some 25), .op (.load 1 false (.tmp 24)), none⟩,
    ⟨(some 26), .op (.faddr (.tmp 3) 0), none⟩,
    ⟨(some 27), .op (.iaddrA (.tmp 26) (.tmp 25) 5 1), none⟩,
    ⟨(some 28), .op (.load 1 false (.tmp 27)), none⟩,
    ⟨(some 29), .op (.mkfn i_impl_Choices_back_1_1 [(.tmp 1), (.tmp 4), (.tmp 9)]), none⟩,
    ⟨(some 30), .call (.func i_impl_all) [(.tmp 28), (.tmp 29)], none⟩,
    ⟨(some 31), .op (.bin .or (.tmp 23) (.tmp 30)), none⟩,
    ⟨(some 7), .op (.mv (.tmp 31)), none⟩]) (.kill [9, 23, 24, 25, 26, 27, 28, 29, 30, 31]))))
  (.post (.reg [⟨(some 32), .op (.bin .add (.tmp 19) (.const (Value.int .i64 1))), none⟩,
    ⟨(some 19), .op (.mv (.tmp 32)), none⟩]) (.kill [32]))))) .nv)
def lo_impl_Choices_back_1_0 : AC := (.loop lb_impl_Choices_back_1_0)
def ac_impl_Choices_back_1 : AC := (.seq (.post (.reg [⟨(some 6), .op (.mv (.const (Value.int .u64 0))), none⟩]) (.kill [6]))
  (.seq (.reg [⟨(some 7), .op (.mv (.const (Value.int .u64 0))), none⟩])
  (.seq (.seq (.post (.draw [⟨0, ⟨(some 10), .op (.faddr (.tmp 1) 3), none⟩, []⟩,
    ⟨1, ⟨(some 11), .op (.load 1 false (.tmp 10)), none⟩, []⟩,
    ⟨2, ⟨(some 12), .op (.mv (.tmp 0)), none⟩, []⟩,
    ⟨3, ⟨(some 13), .op (.iaddrS (.tmp 11) (.tmp 12) 1), none⟩, []⟩,
    ⟨4, ⟨(some 14), .op (.load 1 false (.tmp 13)), none⟩, []⟩,
    ⟨5, ⟨(some 15), .op (.load 1 false (.tmp 2)), none⟩, []⟩,
    ⟨6, ⟨(some 16), .op (.iaddrS (.tmp 14) (.tmp 15) 1), none⟩, []⟩,
    ⟨7, ⟨(some 17), .op (.load 1 false (.tmp 16)), none⟩, []⟩,
    ⟨8, ⟨(some 18), .op (.len false (.tmp 17)), none⟩, []⟩,
    ⟨9, ⟨(some 19), .op (.mv (.const (Value.int .i64 0))), none⟩, []⟩]
    [0, 1, 0, 7, 15, 0, 63, 127, 255, 0]) (.kill [0, 2, 10, 11, 12, 13, 14, 15, 16]))
  (.post (.block 0 (.ghost .nv lo_impl_Choices_back_1_0)) .nv))
  (.ghost (.kill [1, 3, 4, 17, 18, 19]) (.seq (.post (.reg [⟨(some 33), .op (.mv (.tmp 7)), none⟩,
    ⟨(some 6), .op (.mv (.tmp 33)), none⟩]) (.kill [7, 33]))
  .ret)))))
theorem cf_impl_Choices_back_1 : chkFn Try.prog i_impl_Choices_back_1 ac_impl_Choices_back_1 [.tmp 6] 34 = true := by decide +kernel
def fa_impl_Choices_back_1 : FnA := ⟨ac_impl_Choices_back_1, [.tmp 6], 34, false, true, [], .any, none⟩

/-- The checked code of impl Choices  back. -/
def lb_impl_Choices_back_0 : AC := (.post (.seq (.reg [⟨(some 24), .op (.bin .lss (.tmp 23) (.const (Value.int .i64 5))), none⟩])
  (.seq (.cond (.tmp 24) (.ghost (.kill [24]) .skip)
  (.ghost (.kill [11, 22, 23, 24]) (.exit 0)))
  (.seq (.block 1 (.seq (.post (.reg [⟨(some 25), .op (.mv (.tmp 23)), none⟩,
    ⟨(some 26), .op (.idxArr (.tmp 22) (.tmp 23) 5 1 false), none⟩,
    ⟨(some 13), .op (.mv (.tmp 25)), none⟩,
    ⟨(some 14), .op (.mv (.tmp 26)), none⟩]) (.kill [25, 26]))
  (.post (.reg [⟨(some 27), .op (.mv (.tmp 13)), none⟩,
    ⟨(some 28), .op (.mv (.tmp 14)), none⟩,
    ⟨(some 29), .op (.mv (.tmp 11)), none⟩,
    ⟨(some 30), .call (.func i_impl_all) [(.tmp 28), (.tmp 29)], none⟩,
    ⟨(some 31), .op (.faddr (.tmp 12) 0), none⟩,
    ⟨(some 32), .op (.iaddrA (.tmp 31) (.tmp 27) 5 1), none⟩,
    ⟨none, .op (.store 1 (.tmp 32) (.tmp 30)), none⟩]) (.kill [13, 14, 27, 28, 29, 30, 31, 32]))))
  (.post (.reg [⟨(some 33), .op (.bin .add (.tmp 23) (.const (Value.int .i64 1))), none⟩,
    ⟨(some 23), .op (.mv (.tmp 33)), none⟩]) (.kill [33]))))) .nv)
def lo_impl_Choices_back_0 : AC := (.loop lb_impl_Choices_back_0)
def ac_impl_Choices_back : AC := (.seq (.post (.reg [⟨(some 5), .op (.box true (.tmp 0)), none⟩,
    ⟨(some 6), .op (.box true (.tmp 1)), none⟩,
    ⟨(some 7), .op (.box true (.tmp 2)), none⟩,
    ⟨(some 8), .op (.box true (.tmp 3)), none⟩,
    ⟨(some 9), .op (.box true (.tmp 4)), none⟩,
    ⟨(some 10), .op (.alloc (Value.agg #[Value.int .u64 0, Value.int .u64 0, Value.int .u64 0, Value.int .u64 0, Value.int .u64 0, Value.int .u64 0])), none⟩]) (.kill [0, 1, 2, 3, 4]))
  (.seq (.post (.reg [⟨(some 15), .op (.mkfn i_impl_Choices_back_1 [(.tmp 5), (.tmp 7), (.tmp 8), (.tmp 9)]), none⟩,
    ⟨(some 11), .op (.mv (.tmp 15)), none⟩]) (.kill [5, 7, 8, 9, 15]))
  (.seq (.post (.reg [⟨(some 16), .op (.faddr (.tmp 6) 5), none⟩,
    ⟨(some 17), .op (.load 1 false (.tmp 16)), none⟩,
    ⟨(some 18), .op (.mv (.tmp 11)), none⟩,
    ⟨(some 19), .call (.func i_impl_all) [(.tmp 17), (.tmp 18)], none⟩,
    ⟨(some 20), .op (.build [Value.int .u64 0, Value.int .u64 0, Value.int .u64 0, Value.int .u64 0, Value.int .u64 0, Value.int .u64 0] [(5, 1, (.tmp 19))]), none⟩,
    ⟨(some 12), .op (.alloc (Value.agg #[Value.int .u64 0, Value.int .u64 0, Value.int .u64 0, Value.int .u64 0, Value.int .u64 0, Value.int .u64 0])), none⟩,
    ⟨none, .op (.store 6 (.tmp 12) (.tmp 20)), none⟩]) (.kill [16, 17, 18, 19, 20]))
  (.seq (.seq (.post (.reg [⟨(some 21), .op (.faddr (.tmp 6) 0), none⟩,
    ⟨(some 22), .op (.load 5 true (.tmp 21)), none⟩,
    ⟨(some 23), .op (.mv (.const (Value.int .i64 0))), none⟩]) (.kill [6, 21]))
  (.post (.block 0 (.ghost .nv lo_impl_Choices_back_0)) .nv))
  (.ghost (.kill [11, 22, 23]) (.seq (.post (.reg [⟨(some 34), .op (.load 6 true (.tmp 12)), none⟩,
    ⟨none, .op (.store 6 (.tmp 10) (.tmp 34)), none⟩]) (.kill [12, 34]))
  .ret))))))
theorem cf_impl_Choices_back : chkFn Try.prog i_impl_Choices_back ac_impl_Choices_back [.cell 10 6 true] 35 = true := by decide +kernel
def fa_impl_Choices_back : FnA := ⟨ac_impl_Choices_back, [.cell 10 6 true], 35, false, true, [], .any, none⟩

/-- The checked code of impl Choices  known. -/
def lb_impl_Choices_known_0 : AC := (.post (.seq (.reg [⟨(some 16), .op (.bin .lss (.tmp 15) (.tmp 14)), none⟩])
  (.seq (.cond (.tmp 16) (.ghost (.kill [16]) .skip)
  (.ghost (.kill [1, 2, 6, 14, 15, 16]) (.exit 0)))
  (.seq (.block 1 (.seq (.post (.reg [⟨(some 17), .op (.mv (.tmp 15)), none⟩,
    ⟨(some 7), .op (.mv (.tmp 17)), none⟩]) (.kill [17]))
  (.seq (.post (.reg [⟨(some 18), .op (.mv (.tmp 1)), none⟩,
    ⟨(some 19), .op (.mv (.tmp 7)), none⟩,
    ⟨(some 20), .op (.idxStr (.tmp 18) (.tmp 19)), none⟩,
    ⟨(some 21), .call (.func i_impl_kindOf) [(.tmp 20)], none⟩,
    ⟨(some 22), .op (.mv (.tmp 6)), none⟩,
    ⟨(some 23), .op (.len false (.tmp 22)), none⟩,
    ⟨(some 8), .op (.mv (.tmp 21)), none⟩,
    ⟨(some 9), .op (.mv (.tmp 23)), none⟩]) (.kill [18, 19, 20, 21, 22, 23]))
  (.block 2 (.seq (.post (.reg [⟨(some 45), .op (.mv (.tmp 1)), none⟩,
    ⟨(some 46), .op (.mv (.tmp 7)), none⟩,
    ⟨(some 47), .op (.idxStr (.tmp 45) (.tmp 46)), none⟩,
    ⟨(some 48), .call (.func i_impl_isCall) [(.tmp 47)], none⟩,
    ⟨(some 44), .op (.mv (.tmp 48)), none⟩]) (.kill [45, 46, 47, 48]))
  (.cond (.tmp 44) (.ghost (.kill [7, 9, 44]) (.seq (.post (.post (.reg [⟨(some 49), .op (.mv (.tmp 6)), none⟩,
    ⟨(some 50), .op (.load 6 true (.tmp 5)), none⟩,
    ⟨(some 51), .op (.mv (.tmp 8)), none⟩,
    ⟨(some 52), .op (.build [Value.int .u64 0, Value.int .u64 0, Value.int .u64 0, Value.int .u64 0, Value.int .u64 0, Value.int .u64 0, Value.int .i64 0] [(0, 6, (.tmp 50)), (6, 1, (.tmp 51))]), none⟩,
    ⟨(some 53), .op (.lits true 7 1 (Value.agg #[Value.int .u64 0, Value.int .u64 0, Value.int .u64 0, Value.int .u64 0, Value.int .u64 0, Value.int .u64 0, Value.int .i64 0]) [(0, (.tmp 52))]), none⟩,
    ⟨(some 54), .op (.append (.tmp 49) (.tmp 53) 7 56), none⟩,
    ⟨(some 6), .op (.mv (.tmp 54)), none⟩]) (.kill [49, 50, 51, 52, 53, 54])) .nv)
  (.post (.reg [⟨(some 55), .op (.load 6 true (.tmp 2)), none⟩,
    ⟨(some 56), .op (.load 6 true (.tmp 5)), none⟩,
    ⟨(some 57), .op (.mv (.tmp 8)), none⟩,
    ⟨(some 58), .call (.func i_impl_Choices_call) [(.tmp 55), (.tmp 56), (.tmp 57)], none⟩,
    ⟨none, .op (.store 6 (.tmp 5) (.tmp 58)), none⟩]) (.kill [8, 55, 56, 57, 58]))))
  (.ghost (.kill [44]) (.seq (.post (.reg [⟨(some 60), .op (.mv (.tmp 1)), none⟩,
    ⟨(some 61), .op (.mv (.tmp 7)), none⟩,
    ⟨(some 62), .op (.idxStr (.tmp 60) (.tmp 61)), none⟩,
    ⟨(some 63), .call (.func i_impl_isInner) [(.tmp 62)], none⟩,
    ⟨(some 59), .op (.mv (.tmp 63)), none⟩]) (.kill [7, 60, 61, 62, 63]))
  (.cond (.tmp 59) (.ghost (.kill [9, 59]) (.post (.reg [⟨(some 64), .op (.load 6 true (.tmp 2)), none⟩,
    ⟨(some 65), .op (.load 6 true (.tmp 5)), none⟩,
    ⟨(some 66), .op (.mv (.tmp 8)), none⟩,
    ⟨(some 67), .call (.func i_impl_Choices_inner) [(.tmp 64), (.tmp 65), (.tmp 66)], none⟩,
    ⟨none, .op (.store 6 (.tmp 5) (.tmp 67)), none⟩]) (.kill [8, 64, 65, 66, 67])))
  (.ghost (.kill [59]) (.seq (.post (.reg [⟨(some 69), .op (.mv (.tmp 9)), none⟩,
    ⟨(some 70), .op (.bin .eql (.tmp 69) (.const (Value.int .i64 0))), none⟩,
    ⟨(some 68), .op (.mv (.tmp 70)), none⟩]) (.kill [69, 70]))
  (.cond (.tmp 68) (.ghost (.kill [9, 68]) (.post (.reg [⟨(some 71), .op (.load 6 true (.tmp 2)), none⟩,
    ⟨(some 72), .op (.load 6 true (.tmp 5)), none⟩,
    ⟨(some 73), .op (.mv (.tmp 8)), none⟩,
    ⟨(some 74), .call (.func i_impl_Choices_free) [(.tmp 71), (.tmp 72), (.tmp 73)], none⟩,
    ⟨none, .op (.store 6 (.tmp 5) (.tmp 74)), none⟩]) (.kill [8, 71, 72, 73, 74])))
  (.ghost (.kill [68]) (.seq (.post (.draw [⟨0, ⟨(some 24), .op (.load 6 true (.tmp 2)), none⟩, []⟩,
    ⟨1, ⟨(some 25), .op (.mv (.tmp 6)), none⟩, []⟩,
    ⟨2, ⟨(some 26), .op (.mv (.tmp 9)), none⟩, []⟩,
    ⟨3, ⟨(some 27), .op (.bin .sub (.tmp 26) (.const (Value.int .i64 1))), none⟩, []⟩,
    ⟨4, ⟨(some 28), .op (.iaddrS (.tmp 25) (.tmp 27) 7), none⟩, []⟩,
    ⟨5, ⟨(some 29), .op (.faddr (.tmp 28) 0), none⟩, []⟩,
    ⟨6, ⟨(some 30), .op (.load 6 true (.tmp 29)), none⟩, []⟩,
    ⟨7, ⟨(some 31), .op (.mv (.tmp 6)), none⟩, []⟩,
    ⟨8, ⟨(some 32), .op (.mv (.tmp 9)), none⟩, []⟩,
    ⟨9, ⟨(some 33), .op (.bin .sub (.tmp 32) (.const (Value.int .i64 1))), none⟩, []⟩,
    ⟨10, ⟨(some 34), .op (.iaddrS (.tmp 31) (.tmp 33) 7), none⟩, []⟩,
    ⟨11, ⟨(some 35), .op (.faddr (.tmp 34) 6), none⟩, []⟩,
    ⟨12, ⟨(some 36), .op (.load 1 false (.tmp 35)), none⟩, []⟩,
    ⟨13, ⟨(some 37), .op (.load 6 true (.tmp 5)), none⟩, []⟩,
    ⟨14, ⟨(some 38), .op (.mv (.tmp 8)), none⟩, []⟩,
    ⟨15, ⟨(some 39), .call (.func i_impl_Choices_back) [(.tmp 24), (.tmp 30), (.tmp 36), (.tmp 37), (.tmp 38)], none⟩, []⟩,
    ⟨16, ⟨none, .op (.store 6 (.tmp 5) (.tmp 39)), none⟩, []⟩]
    [0, 0, 0, 4, 14, 30, 62, 0, 0, 256, 896, 1920, 3968, 0, 0, 32767, 65535]) (.kill [8, 24, 25, 26, 27, 28, 29, 30, 31, 32, 33, 34, 35, 36, 37, 38, 39]))
  (.post (.post (.reg [⟨(some 40), .op (.mv (.tmp 6)), none⟩,
    ⟨(some 41), .op (.mv (.tmp 9)), none⟩,
    ⟨(some 42), .op (.bin .sub (.tmp 41) (.const (Value.int .i64 1))), none⟩,
    ⟨(some 43), .op (.slcS (.tmp 40) none (some (.tmp 42)) none 7), none⟩,
    ⟨(some 6), .op (.mv (.tmp 43)), none⟩]) (.kill [9, 40, 41, 42, 43])) .nv)))))))))))))))
  (.post (.reg [⟨(some 75), .op (.bin .add (.tmp 15) (.const (Value.int .i64 1))), none⟩,
    ⟨(some 15), .op (.mv (.tmp 75)), none⟩]) (.kill [75]))))) .nv)
def lo_impl_Choices_known_0 : AC := (.loop lb_impl_Choices_known_0)
def ac_impl_Choices_known : AC := (.seq (.post (.reg [⟨(some 2), .op (.box true (.tmp 0)), none⟩,
    ⟨(some 4), .op (.alloc (Value.agg #[Value.int .u64 0, Value.int .u64 0, Value.int .u64 0, Value.int .u64 0, Value.int .u64 0, Value.int .u64 0])), none⟩]) (.kill [0]))
  (.seq (.post (.reg [⟨(some 10), .op (.load 6 true (.tmp 2)), none⟩,
    ⟨(some 11), .call (.func i_impl_Choices_start) [(.tmp 10)], none⟩,
    ⟨(some 12), .op (.lits true 7 0 (Value.agg #[Value.int .u64 0, Value.int .u64 0, Value.int .u64 0, Value.int .u64 0, Value.int .u64 0, Value.int .u64 0, Value.int .i64 0]) []), none⟩,
    ⟨(some 5), .op (.alloc (Value.agg #[Value.int .u64 0, Value.int .u64 0, Value.int .u64 0, Value.int .u64 0, Value.int .u64 0, Value.int .u64 0])), none⟩,
    ⟨none, .op (.store 6 (.tmp 5) (.tmp 11)), none⟩,
    ⟨(some 6), .op (.mv (.tmp 12)), none⟩]) (.kill [10, 11, 12]))
  (.seq (.seq (.post (.reg [⟨(some 13), .op (.mv (.tmp 1)), none⟩,
    ⟨(some 14), .op (.len true (.tmp 13)), none⟩,
    ⟨(some 15), .op (.mv (.const (Value.int .i64 0))), none⟩]) (.kill [13]))
  (.post (.block 0 (.ghost (.ow 6 none 7) (.ghost .nv lo_impl_Choices_known_0))) .nv))
  (.ghost (.kill [1, 2, 6, 14, 15]) (.seq (.post (.reg [⟨(some 76), .op (.load 6 true (.tmp 5)), none⟩,
    ⟨none, .op (.store 6 (.tmp 4) (.tmp 76)), none⟩]) (.kill [5, 76]))
  .ret)))))
theorem cf_impl_Choices_known : chkFn Try.prog i_impl_Choices_known ac_impl_Choices_known [.cell 4 6 true] 77 = true := by decide +kernel
def fa_impl_Choices_known : FnA := ⟨ac_impl_Choices_known, [.cell 4 6 true], 77, false, true, [], .any, none⟩

/-- The checked code of impl StatesAfter. -/
def ac_impl_StatesAfter : AC := (.seq (.post (.reg [⟨(some 2), .op (.box true (.tmp 0)), none⟩,
    ⟨(some 4), .op (.mv (.const (Value.slice none 0 0))), none⟩,
    ⟨(some 5), .op (.mv (.const (Value.int .i64 0))), none⟩]) (.kill [0, 4, 5]))
  (.seq (.seq (.post (.reg [⟨(some 6), .op (.load 6 true (.tmp 2)), none⟩,
    ⟨(some 7), .call (.func i_impl_ValidChoices) [(.tmp 6)], none⟩,
    ⟨(some 8), .op (.un .not (.tmp 7)), none⟩,
    ⟨(some 9), .op (.mv (.tmp 8)), none⟩,
    ⟨(some 10), .op (.mv (.tmp 1)), some (9, false)⟩,
    ⟨(some 11), .call (.func i_impl_ValidWord) [(.tmp 10)], some (9, false)⟩,
    ⟨(some 12), .op (.un .not (.tmp 11)), some (9, false)⟩,
    ⟨(some 13), .op (.pick (.tmp 9) (.const (Value.bool true)) (.tmp 12)), none⟩]) (.kill [6, 7, 8, 9, 10, 11, 12]))
  (.cond (.tmp 13) (.ghost (.kill [1, 2, 13]) (.seq (.reg [⟨(some 4), .op (.mv (.const (Value.slice none 0 0))), none⟩,
    ⟨(some 5), .op (.mv (.const (Value.int .i64 1))), none⟩])
  .ret))
  (.ghost (.kill [13]) .skip)))
  (.seq (.post (.reg [⟨(some 14), .op (.load 6 true (.tmp 2)), none⟩,
    ⟨(some 15), .op (.mv (.tmp 1)), none⟩,
    ⟨(some 16), .call (.func i_impl_Choices_known) [(.tmp 14), (.tmp 15)], none⟩,
    ⟨(some 17), .op (.field (.tmp 16) 5 1 false), none⟩,
    ⟨(some 18), .call (.func i_impl_states) [(.tmp 17)], none⟩,
    ⟨(some 4), .op (.mv (.tmp 18)), none⟩,
    ⟨(some 5), .op (.mv (.const (Value.int .i64 0))), none⟩]) (.kill [1, 2, 14, 15, 16, 17, 18]))
  .ret)))
theorem cf_impl_StatesAfter : chkFn Try.prog i_impl_StatesAfter ac_impl_StatesAfter [.tmp 4, .tmp 5] 19 = true := by decide +kernel
def fa_impl_StatesAfter : FnA := ⟨ac_impl_StatesAfter, [.tmp 4, .tmp 5], 19, false, false, [(.agg [.any, (.lst 1 .any), (.lst 1 .any), (.lst 1 (.lst 1 (.lst 2 .any))), (.lst 1 (.lst 1 (.lst 1 (.lst 1 .any)))), (.lst 1 (.lst 1 (.lst 1 .any)))]), .any], .any, none⟩

/-- The checked code of laws FnExactStatesAfter. -/
def ac_laws_FnExactStatesAfter : AC := (.seq (.post (.reg [⟨(some 2), .op (.box true (.tmp 0)), none⟩,
    ⟨(some 4), .op (.mv (.const (Value.bool false))), none⟩]) (.kill [0, 4]))
  (.seq (.seq (.post (.reg [⟨(some 16), .op (.mv (.tmp 1)), none⟩,
    ⟨(some 17), .op (.len true (.tmp 16)), none⟩,
    ⟨(some 18), .op (.bin .gtr (.tmp 17) (.const (Value.int .i64 1048576))), none⟩]) (.kill [16, 17]))
  (.cond (.tmp 18) (.ghost (.kill [1, 2, 18]) (.seq (.reg [⟨(some 4), .op (.mv (.const (Value.bool true))), none⟩])
  .ret))
  (.ghost (.kill [18]) .skip)))
  (.seq (.reg [⟨(some 5), .op (.mv (.const (Value.int .i64 1048576))), none⟩])
  (.seq (.post (.reg [⟨(some 19), .op (.load 6 true (.tmp 2)), none⟩,
    ⟨(some 20), .op (.mv (.tmp 5)), none⟩,
    ⟨(some 21), .call (.func i_laws_szChoices) [(.tmp 19), (.tmp 20)], none⟩,
    ⟨(some 5), .op (.mv (.tmp 21)), none⟩]) (.kill [19, 20, 21]))
  (.seq (.seq (.post (.reg [⟨(some 22), .op (.mv (.tmp 5)), none⟩,
    ⟨(some 23), .op (.bin .lss (.tmp 22) (.const (Value.int .i64 0))), none⟩]) (.kill [5, 22]))
  (.cond (.tmp 23) (.ghost (.kill [1, 2, 23]) (.seq (.reg [⟨(some 4), .op (.mv (.const (Value.bool true))), none⟩])
  .ret))
  (.ghost (.kill [23]) .skip)))
  (.seq (.post (.reg [⟨(some 25), .op (.load 6 true (.tmp 2)), none⟩,
    ⟨(some 26), .call (.func i_laws_toChoices) [(.tmp 25)] true, none⟩,
    ⟨(some 27), .op (.mv (.tmp 1)), none⟩,
    ⟨(some 28), .call (.func i_spec_StatesAfter) [(.tmp 26), (.tmp 27)], none⟩,
    ⟨(some 24), .op (.mv (.tmp 28)), none⟩,
    ⟨(some 29), .op (.ext (.tmp 24) 0), none⟩,
    ⟨(some 30), .op (.ext (.tmp 24) 1), none⟩,
    ⟨(some 6), .op (.mv (.tmp 29)), none⟩,
    ⟨(some 7), .op (.mv (.tmp 30)), none⟩]) (.kill [24, 25, 26, 27, 28, 29, 30]))
  (.seq (.post (.reg [⟨(some 31), .op (.load 6 true (.tmp 2)), none⟩,
    ⟨(some 32), .call (.func i_laws_toChoices) [(.tmp 31)], none⟩,
    ⟨(some 8), .op (.alloc (Value.agg #[Value.int .i64 0, Value.slice none 0 0, Value.slice none 0 0, Value.slice none 0 0, Value.slice none 0 0, Value.slice none 0 0])), none⟩,
    ⟨none, .op (.store 6 (.tmp 8) (.tmp 32)), none⟩]) (.kill [31, 32]))
  (.seq (.post (.reg [⟨(some 34), .op (.load 6 true (.tmp 8)), none⟩,
    ⟨(some 35), .op (.mv (.tmp 1)), none⟩,
    ⟨(some 36), .call (.func i_impl_StatesAfter) [(.tmp 34), (.tmp 35)], none⟩,
    ⟨(some 33), .op (.mv (.tmp 36)), none⟩,
    ⟨(some 37), .op (.ext (.tmp 33) 0), none⟩,
    ⟨(some 38), .op (.ext (.tmp 33) 1), none⟩,
    ⟨(some 9), .op (.mv (.tmp 37)), none⟩,
    ⟨(some 10), .op (.mv (.tmp 38)), none⟩]) (.kill [33, 34, 35, 36, 37, 38]))
  (.seq (.seq (.post (.reg [⟨(some 39), .op (.mv (.tmp 9)), none⟩,
    ⟨(some 40), .op (.mv (.tmp 6)), none⟩,
    ⟨(some 41), .call (.func i_laws_eqInt64S) [(.tmp 39), (.tmp 40)], none⟩,
    ⟨(some 42), .op (.un .not (.tmp 41)), none⟩,
    ⟨(some 43), .op (.mv (.tmp 42)), none⟩,
    ⟨(some 44), .op (.mv (.tmp 10)), some (43, false)⟩,
    ⟨(some 45), .op (.mv (.tmp 7)), some (43, false)⟩,
    ⟨(some 46), .op (.bin .neq (.tmp 44) (.tmp 45)), some (43, false)⟩,
    ⟨(some 47), .op (.pick (.tmp 43) (.const (Value.bool true)) (.tmp 46)), none⟩]) (.kill [39, 40, 41, 42, 43, 44, 45, 46]))
  (.cond (.tmp 47) (.ghost (.kill [1, 2, 6, 7, 8, 9, 10, 47]) (.seq (.reg [⟨(some 4), .op (.mv (.const (Value.bool false))), none⟩])
  .ret))
  (.ghost (.kill [47]) .skip)))
  (.seq (.seq (.post (.draw [⟨0, ⟨(some 48), .op (.load 6 true (.tmp 8)), none⟩, []⟩,
    ⟨1, ⟨(some 49), .op (.load 6 true (.tmp 2)), none⟩, []⟩,
    ⟨2, ⟨(some 50), .call (.func i_laws_toChoices) [(.tmp 49)], none⟩, [0]⟩,
    ⟨3, ⟨(some 51), .call (.func i_laws_eqChoices) [(.tmp 48), (.tmp 50)], none⟩, []⟩,
    ⟨4, ⟨(some 52), .op (.un .not (.tmp 51)), none⟩, []⟩]
    [0, 0, 2, 7, 15]) (.kill [48, 49, 50, 51]))
  (.cond (.tmp 52) (.ghost (.kill [1, 2, 6, 7, 8, 9, 10, 52]) (.seq (.reg [⟨(some 4), .op (.mv (.const (Value.bool false))), none⟩])
  .ret))
  (.ghost (.kill [52]) .skip)))
  (.seq (.reg [⟨(some 11), .op (.mv (.const (Value.int .i64 1))), none⟩])
  (.seq (.post (.reg [⟨(some 53), .op (.load 6 true (.tmp 8)), none⟩,
    ⟨(some 54), .op (.mv (.tmp 11)), none⟩,
    ⟨(some 55), .call (.func i_laws_markChoices) [(.tmp 53), (.tmp 54)], none⟩,
    ⟨(some 11), .op (.mv (.tmp 55)), none⟩]) (.kill [8, 53, 54, 55]))
  (.seq (.seq (.post (.reg [⟨(some 56), .op (.mv (.tmp 11)), none⟩,
    ⟨(some 57), .op (.bin .lss (.tmp 56) (.const (Value.int .i64 0))), none⟩,
    ⟨(some 58), .op (.mv (.tmp 57)), none⟩,
    ⟨(some 59), .op (.mv (.tmp 9)), some (58, false)⟩,
    ⟨(some 60), .op (.mv (.tmp 6)), some (58, false)⟩,
    ⟨(some 61), .call (.func i_laws_eqInt64S) [(.tmp 59), (.tmp 60)], some (58, false)⟩,
    ⟨(some 62), .op (.un .not (.tmp 61)), some (58, false)⟩,
    ⟨(some 63), .op (.pick (.tmp 58) (.const (Value.bool true)) (.tmp 62)), none⟩,
    ⟨(some 64), .op (.mv (.tmp 63)), none⟩,
    ⟨(some 65), .op (.mv (.tmp 10)), some (64, false)⟩,
    ⟨(some 66), .op (.mv (.tmp 7)), some (64, false)⟩,
    ⟨(some 67), .op (.bin .neq (.tmp 65) (.tmp 66)), some (64, false)⟩,
    ⟨(some 68), .op (.pick (.tmp 64) (.const (Value.bool true)) (.tmp 67)), none⟩]) (.kill [10, 11, 56, 57, 58, 59, 60, 61, 62, 63, 64, 65, 66, 67]))
  (.cond (.tmp 68) (.ghost (.kill [1, 2, 6, 7, 9, 68]) (.seq (.reg [⟨(some 4), .op (.mv (.const (Value.bool false))), none⟩])
  .ret))
  (.ghost (.kill [68]) .skip)))
  (.seq (.reg [⟨(some 12), .op (.mv (.const (Value.int .i64 1))), none⟩])
  (.seq (.post (.reg [⟨(some 69), .op (.mv (.tmp 9)), none⟩,
    ⟨(some 70), .op (.mv (.tmp 12)), none⟩,
    ⟨(some 71), .call (.func i_laws_markInt64S) [(.tmp 69), (.tmp 70)], none⟩,
    ⟨(some 12), .op (.mv (.tmp 71)), none⟩]) (.kill [69, 70, 71]))
  (.seq (.reg [⟨(some 13), .op (.mv (.const (Value.int .i64 1))), none⟩])
  (.seq (.post (.reg [⟨(some 72), .op (.mv (.tmp 9)), none⟩,
    ⟨(some 73), .op (.mv (.tmp 13)), none⟩,
    ⟨(some 74), .call (.func i_laws_heldInt64S) [(.tmp 72), (.tmp 73)], none⟩,
    ⟨(some 13), .op (.mv (.tmp 74)), none⟩]) (.kill [72, 73, 74]))
  (.seq (.seq (.post (.reg [⟨(some 75), .op (.mv (.tmp 13)), none⟩,
    ⟨(some 76), .op (.bin .lss (.tmp 75) (.const (Value.int .i64 0))), none⟩]) (.kill [75]))
  (.cond (.tmp 76) (.ghost (.kill [1, 2, 6, 7, 9, 12, 13, 76]) (.seq (.reg [⟨(some 4), .op (.mv (.const (Value.bool false))), none⟩])
  .ret))
  (.ghost (.kill [76]) .skip)))
  (.seq (.seq (.post (.reg [⟨(some 77), .op (.mv (.tmp 13)), none⟩,
    ⟨(some 78), .op (.mv (.tmp 12)), none⟩,
    ⟨(some 79), .op (.bin .neq (.tmp 77) (.tmp 78)), none⟩]) (.kill [13, 77, 78]))
  (.cond (.tmp 79) (.ghost (.kill [1, 2, 6, 7, 9, 12, 79]) (.seq (.reg [⟨(some 4), .op (.mv (.const (Value.bool false))), none⟩])
  .ret))
  (.ghost (.kill [79]) .skip)))
  (.seq (.post (.reg [⟨(some 81), .op (.load 6 true (.tmp 2)), none⟩,
    ⟨(some 82), .call (.func i_laws_toChoices) [(.tmp 81)], none⟩,
    ⟨(some 83), .op (.mv (.tmp 1)), none⟩,
    ⟨(some 84), .call (.func i_impl_StatesAfter) [(.tmp 82), (.tmp 83)], none⟩,
    ⟨(some 80), .op (.mv (.tmp 84)), none⟩,
    ⟨(some 85), .op (.ext (.tmp 80) 0), none⟩,
    ⟨(some 86), .op (.ext (.tmp 80) 1), none⟩,
    ⟨(some 14), .op (.mv (.tmp 85)), none⟩,
    ⟨(some 15), .op (.mv (.tmp 86)), none⟩]) (.kill [1, 2, 80, 81, 82, 83, 84, 85, 86]))
  (.seq (.seq (.post (.reg [⟨(some 87), .op (.mv (.tmp 14)), none⟩,
    ⟨(some 88), .op (.mv (.tmp 6)), none⟩,
    ⟨(some 89), .call (.func i_laws_eqInt64S) [(.tmp 87), (.tmp 88)], none⟩,
    ⟨(some 90), .op (.un .not (.tmp 89)), none⟩,
    ⟨(some 91), .op (.mv (.tmp 90)), none⟩,
    ⟨(some 92), .op (.mv (.tmp 15)), some (91, false)⟩,
    ⟨(some 93), .op (.mv (.tmp 7)), some (91, false)⟩,
    ⟨(some 94), .op (.bin .neq (.tmp 92) (.tmp 93)), some (91, false)⟩,
    ⟨(some 95), .op (.pick (.tmp 91) (.const (Value.bool true)) (.tmp 94)), none⟩]) (.kill [6, 7, 14, 15, 87, 88, 89, 90, 91, 92, 93, 94]))
  (.cond (.tmp 95) (.ghost (.kill [9, 12, 95]) (.seq (.reg [⟨(some 4), .op (.mv (.const (Value.bool false))), none⟩])
  .ret))
  (.ghost (.kill [95]) .skip)))
  (.seq (.reg [⟨(some 13), .op (.mv (.const (Value.int .i64 1))), none⟩])
  (.seq (.post (.reg [⟨(some 96), .op (.mv (.tmp 9)), none⟩,
    ⟨(some 97), .op (.mv (.tmp 13)), none⟩,
    ⟨(some 98), .call (.func i_laws_heldInt64S) [(.tmp 96), (.tmp 97)], none⟩,
    ⟨(some 13), .op (.mv (.tmp 98)), none⟩]) (.kill [9, 96, 97, 98]))
  (.seq (.seq (.post (.reg [⟨(some 99), .op (.mv (.tmp 13)), none⟩,
    ⟨(some 100), .op (.bin .lss (.tmp 99) (.const (Value.int .i64 0))), none⟩]) (.kill [99]))
  (.cond (.tmp 100) (.ghost (.kill [12, 13, 100]) (.seq (.reg [⟨(some 4), .op (.mv (.const (Value.bool false))), none⟩])
  .ret))
  (.ghost (.kill [100]) .skip)))
  (.seq (.seq (.post (.reg [⟨(some 101), .op (.mv (.tmp 13)), none⟩,
    ⟨(some 102), .op (.mv (.tmp 12)), none⟩,
    ⟨(some 103), .op (.bin .neq (.tmp 101) (.tmp 102)), none⟩]) (.kill [12, 13, 101, 102]))
  (.cond (.tmp 103) (.ghost (.kill [103]) (.seq (.reg [⟨(some 4), .op (.mv (.const (Value.bool false))), none⟩])
  .ret))
  (.ghost (.kill [103]) .skip)))
  (.seq (.reg [⟨(some 4), .op (.mv (.const (Value.bool true))), none⟩])
  .ret))))))))))))))))))))))))))
theorem cf_laws_FnExactStatesAfter : chkFn Try.prog i_laws_FnExactStatesAfter ac_laws_FnExactStatesAfter [.tmp 4] 104 = true := by decide +kernel
def fa_laws_FnExactStatesAfter : FnA := ⟨ac_laws_FnExactStatesAfter, [.tmp 4], 104, false, true, [], .any, none⟩

end Go.Proofs.Ytegjfjckijmgcaa
