/- The code of the functions, checked against the loaded program; printed by a program (gen2.py). -/
import Derived.Test.YtpjadhjjeafffaaProg
import Derived.Test.YtpjadhjjeafffaaAw25
import Derived.Test.YtpjadhjjeafffaaG0
set_option linter.unusedVariables false
set_option maxRecDepth 100000
namespace Go.Proofs.Ytpjadhjjeafffaa
open Aw

/-- The checked code of spec l06Plain. -/
def lb_spec_l06Plain_0 : AC := (.post (.seq (.seq (.post (.reg [⟨(some 39), .op (.mv (.tmp 8)), none⟩,
    ⟨(some 40), .op (.mv (.tmp 1)), none⟩,
    ⟨(some 41), .op (.bin .leq (.tmp 39) (.tmp 40)), none⟩]) (.kill [39, 40]))
  (.cond (.tmp 41) (.ghost (.kill [41]) .skip)
  (.ghost (.kill [8, 41]) (.exit 2))))
  (.seq (.block 3 (.seq (.post (.post (.reg [⟨(some 44), .op (.mv (.tmp 7)), none⟩,
    ⟨(some 45), .op (.mv (.tmp 7)), none⟩,
    ⟨(some 46), .op (.iaddrS (.tmp 45) (.const (Value.int .i64 0)) 1), none⟩,
    ⟨(some 47), .op (.load 1 false (.tmp 46)), none⟩,
    ⟨(some 48), .op (.mv (.tmp 6)), none⟩,
    ⟨(some 49), .op (.build [Value.int .i64 0, Value.string ⟨#[]⟩] [(0, 1, (.tmp 48)), (1, 1, (.const (Value.string ⟨#[41]⟩)))]), none⟩,
    ⟨(some 50), .op (.lits true 2 1 (Value.agg #[Value.int .i64 0, Value.string ⟨#[]⟩]) [(0, (.tmp 49))]), none⟩,
    ⟨(some 51), .op (.append (.tmp 47) (.tmp 50) 2 24), none⟩,
    ⟨(some 52), .op (.iaddrS (.tmp 44) (.const (Value.int .i64 0)) 1), none⟩,
    ⟨none, .op (.store 1 (.tmp 52) (.tmp 51)), none⟩]) (.kill [44, 45, 46, 47, 48, 49, 50, 51, 52])) .nv)
  (.post (.post (.reg [⟨(some 53), .op (.mv (.tmp 7)), none⟩,
    ⟨(some 54), .op (.mv (.tmp 7)), none⟩,
    ⟨(some 55), .op (.iaddrS (.tmp 54) (.const (Value.int .i64 1)) 1), none⟩,
    ⟨(some 56), .op (.load 1 false (.tmp 55)), none⟩,
    ⟨(some 57), .op (.mv (.tmp 6)), none⟩,
    ⟨(some 58), .op (.build [Value.int .i64 0, Value.string ⟨#[]⟩] [(0, 1, (.tmp 57)), (1, 1, (.const (Value.string ⟨#[93]⟩)))]), none⟩,
    ⟨(some 59), .op (.lits true 2 1 (Value.agg #[Value.int .i64 0, Value.string ⟨#[]⟩]) [(0, (.tmp 58))]), none⟩,
    ⟨(some 60), .op (.append (.tmp 56) (.tmp 59) 2 24), none⟩,
    ⟨(some 61), .op (.iaddrS (.tmp 53) (.const (Value.int .i64 1)) 1), none⟩,
    ⟨none, .op (.store 1 (.tmp 61) (.tmp 60)), none⟩]) (.kill [53, 54, 55, 56, 57, 58, 59, 60, 61])) .nv)))
  (.post (.reg [⟨(some 42), .op (.mv (.tmp 8)), none⟩,
    ⟨(some 43), .op (.bin .add (.tmp 42) (.const (Value.int .i64 1))), none⟩,
    ⟨(some 8), .op (.mv (.tmp 43)), none⟩]) (.kill [42, 43])))) .nv)
def lo_spec_l06Plain_0 : AC := (.loop lb_spec_l06Plain_0)
def lb_spec_l06Plain_1 : AC := (.post (.seq (.seq (.post (.reg [⟨(some 11), .op (.mv (.tmp 6)), none⟩,
    ⟨(some 12), .op (.mv (.tmp 0)), none⟩,
    ⟨(some 13), .op (.bin .lss (.tmp 11) (.tmp 12)), none⟩]) (.kill [11, 12]))
  (.cond (.tmp 13) (.ghost (.kill [13]) .skip)
  (.ghost (.kill [0, 1, 6, 13]) (.exit 0))))
  (.seq (.block 1 (.seq (.post (.post (.reg [⟨(some 16), .op (.faddr (.tmp 5) 2), none⟩,
    ⟨(some 17), .op (.load 1 false (.tmp 16)), none⟩,
    ⟨(some 18), .op (.mv (.tmp 6)), none⟩,
    ⟨(some 19), .op (.build [Value.int .i64 0, Value.int .i64 0, Value.string ⟨#[]⟩] [(0, 1, (.tmp 18)), (2, 1, (.const (Value.string ⟨#[40]⟩)))]), none⟩,
    ⟨(some 20), .op (.mv (.tmp 6)), none⟩,
    ⟨(some 21), .op (.build [Value.int .i64 0, Value.int .i64 0, Value.string ⟨#[]⟩] [(0, 1, (.tmp 20)), (2, 1, (.const (Value.string ⟨#[91]⟩)))]), none⟩,
    ⟨(some 22), .op (.lits false 3 2 (Value.agg #[Value.int .i64 0, Value.int .i64 0, Value.string ⟨#[]⟩]) [(0, (.tmp 19)), (1, (.tmp 21))]), none⟩,
    ⟨(some 23), .op (.lits true 1 1 (Value.slice none 0 0) [(0, (.tmp 22))]), none⟩,
    ⟨(some 24), .op (.append (.tmp 17) (.tmp 23) 1 24), none⟩,
    ⟨(some 25), .op (.faddr (.tmp 5) 2), none⟩,
    ⟨none, .op (.store 1 (.tmp 25) (.tmp 24)), none⟩]) (.kill [16, 17, 18, 19, 20, 21, 22, 23, 24, 25])) .nv)
  (.seq (.post (.post (.reg [⟨(some 26), .op (.faddr (.tmp 5) 4), none⟩,
    ⟨(some 27), .op (.load 1 false (.tmp 26)), none⟩,
    ⟨(some 28), .op (.mv (.tmp 6)), none⟩,
    ⟨(some 29), .op (.build [Value.int .i64 0, Value.string ⟨#[]⟩] [(0, 1, (.tmp 28)), (1, 1, (.const (Value.string ⟨#[97]⟩)))]), none⟩,
    ⟨(some 30), .op (.mv (.tmp 6)), none⟩,
    ⟨(some 31), .op (.build [Value.int .i64 0, Value.string ⟨#[]⟩] [(0, 1, (.tmp 30)), (1, 1, (.const (Value.string ⟨#[98]⟩)))]), none⟩,
    ⟨(some 32), .op (.lits false 2 2 (Value.agg #[Value.int .i64 0, Value.string ⟨#[]⟩]) [(0, (.tmp 29)), (1, (.tmp 31))]), none⟩,
    ⟨(some 33), .op (.lits true 1 1 (Value.slice none 0 0) [(0, (.tmp 32))]), none⟩,
    ⟨(some 34), .op (.append (.tmp 27) (.tmp 33) 1 24), none⟩,
    ⟨(some 35), .op (.faddr (.tmp 5) 4), none⟩,
    ⟨none, .op (.store 1 (.tmp 35) (.tmp 34)), none⟩]) (.kill [26, 27, 28, 29, 30, 31, 32, 33, 34, 35])) .nv)
  (.seq (.post (.reg [⟨(some 36), .op (.lits true 2 0 (Value.agg #[Value.int .i64 0, Value.string ⟨#[]⟩]) []), none⟩,
    ⟨(some 37), .op (.lits true 2 0 (Value.agg #[Value.int .i64 0, Value.string ⟨#[]⟩]) []), none⟩,
    ⟨(some 38), .op (.lits false 1 2 (Value.slice none 0 0) [(0, (.tmp 36)), (1, (.tmp 37))]), none⟩,
    ⟨(some 7), .op (.mv (.tmp 38)), none⟩]) (.kill [36, 37, 38]))
  (.seq (.seq (.reg [⟨(some 8), .op (.mv (.const (Value.int .i64 0))), none⟩])
  (.post (.block 2 (.ghost (.ow 5 (some 2) 1) (.ghost (.ow 5 (some 3) 1) (.ghost (.ow 5 (some 4) 1) (.ghost .nv lo_spec_l06Plain_0))))) .nv))
  (.ghost (.kill [8]) (.post (.post (.reg [⟨(some 62), .op (.faddr (.tmp 5) 3), none⟩,
    ⟨(some 63), .op (.load 1 false (.tmp 62)), none⟩,
    ⟨(some 64), .op (.mv (.tmp 7)), none⟩,
    ⟨(some 65), .op (.lits true 1 1 (Value.slice none 0 0) [(0, (.tmp 64))]), none⟩,
    ⟨(some 66), .op (.append (.tmp 63) (.tmp 65) 1 24), none⟩,
    ⟨(some 67), .op (.faddr (.tmp 5) 3), none⟩,
    ⟨none, .op (.store 1 (.tmp 67) (.tmp 66)), none⟩]) (.kill [7, 62, 63, 64, 65, 66, 67])) .nv)))))))
  (.post (.reg [⟨(some 14), .op (.mv (.tmp 6)), none⟩,
    ⟨(some 15), .op (.bin .add (.tmp 14) (.const (Value.int .i64 1))), none⟩,
    ⟨(some 6), .op (.mv (.tmp 15)), none⟩]) (.kill [14, 15])))) .nv)
def lo_spec_l06Plain_1 : AC := (.loop lb_spec_l06Plain_1)
def ac_spec_l06Plain : AC := (.seq (.reg [⟨(some 4), .op (.alloc (Value.agg #[Value.int .i64 0, Value.int .i64 0, Value.slice none 0 0, Value.slice none 0 0, Value.slice none 0 0])), none⟩])
  (.seq (.post (.reg [⟨(some 9), .op (.mv (.tmp 1)), none⟩,
    ⟨(some 10), .op (.build [Value.int .i64 0, Value.int .i64 0, Value.slice none 0 0, Value.slice none 0 0, Value.slice none 0 0] [(0, 1, (.tmp 9))]), none⟩,
    ⟨(some 5), .op (.alloc (Value.agg #[Value.int .i64 0, Value.int .i64 0, Value.slice none 0 0, Value.slice none 0 0, Value.slice none 0 0])), none⟩,
    ⟨none, .op (.store 5 (.tmp 5) (.tmp 10)), none⟩]) (.kill [9, 10]))
  (.seq (.seq (.reg [⟨(some 6), .op (.mv (.const (Value.int .i64 0))), none⟩])
  (.post (.block 0 (.ghost (.ow 5 (some 2) 1) (.ghost (.ow 5 (some 3) 1) (.ghost (.ow 5 (some 4) 1) (.ghost .nv lo_spec_l06Plain_1))))) .nv))
  (.ghost (.kill [0, 1, 6]) (.seq (.post (.reg [⟨(some 68), .op (.load 5 true (.tmp 5)), none⟩,
    ⟨none, .op (.store 5 (.tmp 4) (.tmp 68)), none⟩]) (.kill [5, 68]))
  .ret)))))
theorem cf_spec_l06Plain : chkFn Try.prog i_spec_l06Plain ac_spec_l06Plain [.cell 4 5 true] 69 = true := by decide +kernel
def fa_spec_l06Plain : FnA := ⟨ac_spec_l06Plain, [.cell 4 5 true], 69, false, false⟩

/-- The checked code of spec UnwrapRewriter. -/
def ac_spec_UnwrapRewriter : AC := (.seq (.post (.reg [⟨(some 2), .op (.alloc (Value.agg #[Value.int .i64 0, Value.int .i64 0, Value.slice none 0 0, Value.slice none 0 0, Value.slice none 0 0])), none⟩,
    ⟨(some 3), .op (.mv (.const (Value.int .i64 0))), none⟩]) (.kill [3]))
  (.seq (.reg [⟨(some 4), .op (.mv (.const (Value.int .i64 0))), none⟩])
  (.seq (.seq (.post (.reg [⟨(some 6), .op (.mv (.tmp 0)), none⟩,
    ⟨(some 7), .op (.bin .eql (.tmp 6) (.const (Value.string ⟨#[91]⟩))), none⟩]) (.kill [6]))
  (.cond (.tmp 7) (.ghost (.kill [4, 7]) (.reg [⟨(some 4), .op (.mv (.const (Value.int .i64 1))), none⟩]))
  (.ghost (.kill [7]) .skip)))
  (.seq (.seq (.post (.reg [⟨(some 8), .op (.mv (.tmp 0)), none⟩,
    ⟨(some 9), .op (.bin .neq (.tmp 8) (.const (Value.string ⟨#[40]⟩))), none⟩,
    ⟨(some 10), .op (.mv (.tmp 9)), none⟩,
    ⟨(some 11), .op (.mv (.tmp 0)), some (10, true)⟩,
    ⟨(some 12), .op (.bin .neq (.tmp 11) (.const (Value.string ⟨#[91]⟩))), some (10, true)⟩,
    ⟨(some 13), .op (.pick (.tmp 10) (.tmp 12) (.const (Value.bool false))), none⟩]) (.kill [0, 8, 9, 10, 11, 12]))
  (.cond (.tmp 13) (.ghost (.kill [4, 13]) (.seq (.post (.reg [⟨(some 14), .op (.build [Value.int .i64 0, Value.int .i64 0, Value.slice none 0 0, Value.slice none 0 0, Value.slice none 0 0] []), none⟩,
    ⟨none, .op (.store 5 (.tmp 2) (.tmp 14)), none⟩,
    ⟨(some 3), .op (.mv (.const (Value.int .i64 2))), none⟩]) (.kill [14]))
  .ret))
  (.ghost (.kill [13]) .skip)))
  (.seq (.post (.reg [⟨(some 15), .call (.func i_spec_l06Plain) [(.const (Value.int .i64 1)), (.const (Value.int .i64 2))], none⟩,
    ⟨(some 5), .op (.alloc (Value.agg #[Value.int .i64 0, Value.int .i64 0, Value.slice none 0 0, Value.slice none 0 0, Value.slice none 0 0])), none⟩,
    ⟨none, .op (.store 5 (.tmp 5) (.tmp 15)), none⟩]) (.kill [15]))
  (.seq (.post (.reg [⟨(some 16), .op (.faddr (.tmp 5) 2), none⟩,
    ⟨(some 17), .op (.load 1 false (.tmp 16)), none⟩,
    ⟨(some 18), .op (.iaddrS (.tmp 17) (.const (Value.int .i64 0)) 1), none⟩,
    ⟨(some 19), .op (.load 1 false (.tmp 18)), none⟩,
    ⟨(some 20), .op (.mv (.tmp 4)), none⟩,
    ⟨(some 21), .op (.build [Value.int .i64 0, Value.int .i64 0, Value.string ⟨#[]⟩] [(1, 1, (.const (Value.int .i64 1)))]), none⟩,
    ⟨(some 22), .op (.iaddrS (.tmp 19) (.tmp 20) 3), none⟩,
    ⟨none, .op (.store 3 (.tmp 22) (.tmp 21)), none⟩]) (.kill [4, 16, 17, 18, 19, 20, 21, 22]))
  (.seq (.post (.reg [⟨(some 23), .op (.faddr (.tmp 5) 3), none⟩,
    ⟨(some 24), .op (.load 1 false (.tmp 23)), none⟩,
    ⟨(some 25), .op (.iaddrS (.tmp 24) (.const (Value.int .i64 0)) 1), none⟩,
    ⟨(some 26), .op (.load 1 false (.tmp 25)), none⟩,
    ⟨(some 27), .op (.iaddrS (.tmp 26) (.const (Value.int .i64 0)) 1), none⟩,
    ⟨(some 28), .op (.load 1 false (.tmp 27)), none⟩,
    ⟨(some 29), .op (.iaddrS (.tmp 28) (.const (Value.int .i64 1)) 2), none⟩,
    ⟨(some 30), .op (.faddr (.tmp 29) 1), none⟩,
    ⟨none, .op (.store 1 (.tmp 30) (.const (Value.string ⟨#[]⟩))), none⟩]) (.kill [23, 24, 25, 26, 27, 28, 29, 30]))
  (.seq (.post (.reg [⟨(some 31), .op (.faddr (.tmp 5) 3), none⟩,
    ⟨(some 32), .op (.load 1 false (.tmp 31)), none⟩,
    ⟨(some 33), .op (.iaddrS (.tmp 32) (.const (Value.int .i64 0)) 1), none⟩,
    ⟨(some 34), .op (.load 1 false (.tmp 33)), none⟩,
    ⟨(some 35), .op (.iaddrS (.tmp 34) (.const (Value.int .i64 1)) 1), none⟩,
    ⟨(some 36), .op (.load 1 false (.tmp 35)), none⟩,
    ⟨(some 37), .op (.iaddrS (.tmp 36) (.const (Value.int .i64 1)) 2), none⟩,
    ⟨(some 38), .op (.faddr (.tmp 37) 1), none⟩,
    ⟨none, .op (.store 1 (.tmp 38) (.const (Value.string ⟨#[]⟩))), none⟩]) (.kill [31, 32, 33, 34, 35, 36, 37, 38]))
  (.seq (.post (.reg [⟨(some 39), .op (.load 5 true (.tmp 5)), none⟩,
    ⟨none, .op (.store 5 (.tmp 2) (.tmp 39)), none⟩,
    ⟨(some 3), .op (.mv (.const (Value.int .i64 0))), none⟩]) (.kill [5, 39]))
  .ret)))))))))
theorem cf_spec_UnwrapRewriter : chkFn Try.prog i_spec_UnwrapRewriter ac_spec_UnwrapRewriter [.cell 2 5 true, .tmp 3] 40 = true := by decide +kernel
def fa_spec_UnwrapRewriter : FnA := ⟨ac_spec_UnwrapRewriter, [.cell 2 5 true, .tmp 3], 40, false, true⟩

/-- The checked code of impl builtRewriter. -/
def lb_impl_builtRewriter_0 : AC := (.post (.seq (.reg [⟨(some 38), .op (.bin .lss (.tmp 37) (.tmp 36)), none⟩])
  (.seq (.cond (.tmp 38) (.ghost (.kill [38]) .skip)
  (.ghost (.kill [36, 37, 38]) (.exit 4)))
  (.seq (.block 5 (.seq (.post (.reg [⟨(some 39), .op (.mv (.tmp 37)), none⟩,
    ⟨(some 20), .op (.mv (.tmp 39)), none⟩]) (.kill [39]))
  (.post (.post (.reg [⟨(some 40), .op (.mv (.tmp 19)), none⟩,
    ⟨(some 41), .op (.mv (.tmp 4)), none⟩,
    ⟨(some 42), .op (.mv (.tmp 14)), none⟩,
    ⟨(some 43), .op (.mv (.tmp 18)), none⟩,
    ⟨(some 44), .op (.mv (.tmp 20)), none⟩,
    ⟨(some 45), .call (.tmp 41) [(.tmp 42), (.tmp 43), (.tmp 44)], none⟩,
    ⟨(some 46), .op (.lits true 2 1 (Value.agg #[Value.int .i64 0, Value.string ⟨#[]⟩]) [(0, (.tmp 45))]), none⟩,
    ⟨(some 47), .op (.append (.tmp 40) (.tmp 46) 2 24), none⟩,
    ⟨(some 19), .op (.mv (.tmp 47)), none⟩]) (.kill [20, 40, 41, 42, 43, 44, 45, 46, 47])) .nv)))
  (.post (.reg [⟨(some 48), .op (.bin .add (.tmp 37) (.const (Value.int .i64 1))), none⟩,
    ⟨(some 37), .op (.mv (.tmp 48)), none⟩]) (.kill [48]))))) .nv)
def lo_impl_builtRewriter_0 : AC := (.loop lb_impl_builtRewriter_0)
def lb_impl_builtRewriter_1 : AC := (.post (.seq (.reg [⟨(some 32), .op (.bin .lss (.tmp 31) (.const (Value.int .i64 2))), none⟩])
  (.seq (.cond (.tmp 32) (.ghost (.kill [32]) .skip)
  (.ghost (.kill [14, 31, 32]) (.exit 2)))
  (.seq (.block 3 (.seq (.post (.reg [⟨(some 33), .op (.mv (.tmp 31)), none⟩,
    ⟨(some 18), .op (.mv (.tmp 33)), none⟩]) (.kill [33]))
  (.seq (.post (.reg [⟨(some 34), .op (.lits true 2 0 (Value.agg #[Value.int .i64 0, Value.string ⟨#[]⟩]) []), none⟩,
    ⟨(some 19), .op (.mv (.tmp 34)), none⟩]) (.kill [34]))
  (.seq (.seq (.post (.reg [⟨(some 35), .op (.mv (.tmp 1)), none⟩,
    ⟨(some 36), .op (.bin .add (.tmp 35) (.const (Value.int .i64 1))), none⟩,
    ⟨(some 37), .op (.mv (.const (Value.int .i64 0))), none⟩]) (.kill [35]))
  (.post (.block 4 (.ghost (.ow 13 (some 2) 1) (.ghost (.ow 13 (some 3) 1) (.ghost (.ow 13 (some 4) 1) (.ghost (.ow 15 none 3) (.ghost (.ow 16 none 1) (.ghost (.ow 17 none 2) (.ghost (.ow 19 none 2) (.ghost .nv lo_impl_builtRewriter_0))))))))) .nv))
  (.ghost (.kill [36, 37]) (.post (.post (.reg [⟨(some 49), .op (.mv (.tmp 15)), none⟩,
    ⟨(some 50), .op (.mv (.tmp 3)), none⟩,
    ⟨(some 51), .op (.mv (.tmp 14)), none⟩,
    ⟨(some 52), .op (.mv (.tmp 18)), none⟩,
    ⟨(some 53), .call (.tmp 50) [(.tmp 51), (.tmp 52)], none⟩,
    ⟨(some 54), .op (.lits true 3 1 (Value.agg #[Value.int .i64 0, Value.int .i64 0, Value.string ⟨#[]⟩]) [(0, (.tmp 53))]), none⟩,
    ⟨(some 55), .op (.append (.tmp 49) (.tmp 54) 3 32), none⟩,
    ⟨(some 56), .op (.mv (.tmp 16)), none⟩,
    ⟨(some 57), .op (.mv (.tmp 19)), none⟩,
    ⟨(some 58), .op (.lits true 1 1 (Value.slice none 0 0) [(0, (.tmp 57))]), none⟩,
    ⟨(some 59), .op (.append (.tmp 56) (.tmp 58) 1 24), none⟩,
    ⟨(some 60), .op (.mv (.tmp 17)), none⟩,
    ⟨(some 61), .op (.mv (.tmp 5)), none⟩,
    ⟨(some 62), .op (.mv (.tmp 14)), none⟩,
    ⟨(some 63), .op (.mv (.tmp 18)), none⟩,
    ⟨(some 64), .call (.tmp 61) [(.tmp 62), (.tmp 63)], none⟩,
    ⟨(some 65), .op (.lits true 2 1 (Value.agg #[Value.int .i64 0, Value.string ⟨#[]⟩]) [(0, (.tmp 64))]), none⟩,
    ⟨(some 66), .op (.append (.tmp 60) (.tmp 65) 2 24), none⟩,
    ⟨(some 15), .op (.mv (.tmp 55)), none⟩,
    ⟨(some 16), .op (.mv (.tmp 59)), none⟩,
    ⟨(some 17), .op (.mv (.tmp 66)), none⟩]) (.kill [18, 19, 49, 50, 51, 52, 53, 54, 55, 56, 57, 58, 59, 60, 61, 62, 63, 64, 65, 66])) .nv))))))
  (.post (.reg [⟨(some 67), .op (.bin .add (.tmp 31) (.const (Value.int .i64 1))), none⟩,
    ⟨(some 31), .op (.mv (.tmp 67)), none⟩]) (.kill [67]))))) .nv)
def lo_impl_builtRewriter_1 : AC := (.loop lb_impl_builtRewriter_1)
def lb_impl_builtRewriter_2 : AC := (.post (.seq (.reg [⟨(some 26), .op (.bin .lss (.tmp 25) (.tmp 24)), none⟩])
  (.seq (.cond (.tmp 26) (.ghost (.kill [26]) .skip)
  (.ghost (.kill [1, 3, 4, 5, 24, 25, 26]) (.exit 0)))
  (.seq (.block 1 (.seq (.post (.reg [⟨(some 27), .op (.mv (.tmp 25)), none⟩,
    ⟨(some 14), .op (.mv (.tmp 27)), none⟩]) (.kill [27]))
  (.seq (.post (.reg [⟨(some 28), .op (.lits true 3 0 (Value.agg #[Value.int .i64 0, Value.int .i64 0, Value.string ⟨#[]⟩]) []), none⟩,
    ⟨(some 29), .op (.lits true 1 0 (Value.slice none 0 0) []), none⟩,
    ⟨(some 30), .op (.lits true 2 0 (Value.agg #[Value.int .i64 0, Value.string ⟨#[]⟩]) []), none⟩,
    ⟨(some 15), .op (.mv (.tmp 28)), none⟩,
    ⟨(some 16), .op (.mv (.tmp 29)), none⟩,
    ⟨(some 17), .op (.mv (.tmp 30)), none⟩]) (.kill [28, 29, 30]))
  (.seq (.seq (.reg [⟨(some 31), .op (.mv (.const (Value.int .i64 0))), none⟩])
  (.post (.block 2 (.ghost (.ow 13 (some 2) 1) (.ghost (.ow 13 (some 3) 1) (.ghost (.ow 13 (some 4) 1) (.ghost (.ow 15 none 3) (.ghost (.ow 16 none 1) (.ghost (.ow 17 none 2) (.ghost .nv lo_impl_builtRewriter_1)))))))) .nv))
  (.ghost (.kill [14, 31]) (.post (.post (.draw [⟨0, ⟨(some 68), .op (.faddr (.tmp 13) 2), none⟩, []⟩,
    ⟨1, ⟨(some 69), .op (.load 1 false (.tmp 68)), none⟩, []⟩,
    ⟨2, ⟨(some 70), .op (.mv (.tmp 15)), none⟩, []⟩,
    ⟨3, ⟨(some 71), .op (.lits true 1 1 (Value.slice none 0 0) [(0, (.tmp 70))]), none⟩, []⟩,
    ⟨5, ⟨(some 73), .op (.faddr (.tmp 13) 3), none⟩, []⟩,
    ⟨6, ⟨(some 74), .op (.load 1 false (.tmp 73)), none⟩, []⟩,
    ⟨7, ⟨(some 75), .op (.mv (.tmp 16)), none⟩, []⟩,
    ⟨8, ⟨(some 76), .op (.lits true 1 1 (Value.slice none 0 0) [(0, (.tmp 75))]), none⟩, []⟩,
    ⟨10, ⟨(some 78), .op (.faddr (.tmp 13) 4), none⟩, []⟩,
    ⟨11, ⟨(some 79), .op (.load 1 false (.tmp 78)), none⟩, []⟩,
    ⟨12, ⟨(some 80), .op (.mv (.tmp 17)), none⟩, []⟩,
    ⟨13, ⟨(some 81), .op (.lits true 1 1 (Value.slice none 0 0) [(0, (.tmp 80))]), none⟩, []⟩,
    ⟨4, ⟨(some 72), .op (.append (.tmp 69) (.tmp 71) 1 24), none⟩, [6, 11]⟩,
    ⟨15, ⟨(some 83), .op (.faddr (.tmp 13) 2), none⟩, []⟩,
    ⟨9, ⟨(some 77), .op (.append (.tmp 74) (.tmp 76) 1 24), none⟩, [11]⟩,
    ⟨14, ⟨(some 82), .op (.append (.tmp 79) (.tmp 81) 1 24), none⟩, []⟩,
    ⟨16, ⟨none, .op (.store 1 (.tmp 83) (.tmp 72)), none⟩, []⟩,
    ⟨17, ⟨(some 84), .op (.faddr (.tmp 13) 3), none⟩, []⟩,
    ⟨18, ⟨none, .op (.store 1 (.tmp 84) (.tmp 77)), none⟩, []⟩,
    ⟨19, ⟨(some 85), .op (.faddr (.tmp 13) 4), none⟩, []⟩,
    ⟨20, ⟨none, .op (.store 1 (.tmp 85) (.tmp 82)), none⟩, []⟩]
    [0, 1, 0, 4, 15, 0, 32, 0, 128, 511, 0, 1024, 0, 4096, 16383, 3199, 65535, 131071, 262143, 524287, 1048575]) (.kill [15, 16, 17, 68, 69, 70, 71, 72, 73, 74, 75, 76, 77, 78, 79, 80, 81, 82, 83, 84, 85])) .nv))))))
  (.post (.reg [⟨(some 86), .op (.bin .add (.tmp 25) (.const (Value.int .i64 1))), none⟩,
    ⟨(some 25), .op (.mv (.tmp 86)), none⟩]) (.kill [86]))))) .nv)
def lo_impl_builtRewriter_2 : AC := (.loop lb_impl_builtRewriter_2)
def ac_impl_builtRewriter : AC := (.seq (.reg [⟨(some 12), .op (.alloc (Value.agg #[Value.int .i64 0, Value.int .i64 0, Value.slice none 0 0, Value.slice none 0 0, Value.slice none 0 0])), none⟩])
  (.seq (.post (.reg [⟨(some 21), .op (.mv (.tmp 1)), none⟩,
    ⟨(some 22), .op (.mv (.tmp 2)), none⟩,
    ⟨(some 23), .op (.build [Value.int .i64 0, Value.int .i64 0, Value.slice none 0 0, Value.slice none 0 0, Value.slice none 0 0] [(0, 1, (.tmp 21)), (1, 1, (.tmp 22))]), none⟩,
    ⟨(some 13), .op (.alloc (Value.agg #[Value.int .i64 0, Value.int .i64 0, Value.slice none 0 0, Value.slice none 0 0, Value.slice none 0 0])), none⟩,
    ⟨none, .op (.store 5 (.tmp 13) (.tmp 23)), none⟩]) (.kill [2, 21, 22, 23]))
  (.seq (.seq (.post (.reg [⟨(some 24), .op (.mv (.tmp 0)), none⟩,
    ⟨(some 25), .op (.mv (.const (Value.int .i64 0))), none⟩]) (.kill [0]))
  (.post (.block 0 (.ghost (.ow 13 (some 2) 1) (.ghost (.ow 13 (some 3) 1) (.ghost (.ow 13 (some 4) 1) (.ghost .nv lo_impl_builtRewriter_2))))) .nv))
  (.ghost (.kill [1, 3, 4, 5, 24, 25]) (.seq (.post (.reg [⟨(some 87), .op (.load 5 true (.tmp 13)), none⟩,
    ⟨none, .op (.store 5 (.tmp 12) (.tmp 87)), none⟩]) (.kill [13, 87]))
  .ret)))))
theorem cf_impl_builtRewriter : chkFn Try.prog i_impl_builtRewriter ac_impl_builtRewriter [.cell 12 5 true] 88 = true := by decide +kernel
def fa_impl_builtRewriter : FnA := ⟨ac_impl_builtRewriter, [.cell 12 5 true], 88, false, false⟩

/-- The checked code of impl symbol. -/
def ac_impl_symbol : AC := (.seq (.post (.reg [⟨(some 2), .op (.mv (.const (Value.string ⟨#[]⟩))), none⟩]) (.kill [2]))
  (.seq (.post (.reg [⟨(some 3), .op (.mv (.tmp 0)), none⟩,
    ⟨(some 4), .op (.mv (.tmp 0)), none⟩,
    ⟨(some 5), .op (.bin .add (.tmp 4) (.const (Value.int .i64 1))), none⟩,
    ⟨(some 6), .op (.slcStr (.const (Value.string ⟨#[40, 91, 41, 93, 97, 98]⟩)) (some (.tmp 3)) (some (.tmp 5))), none⟩,
    ⟨(some 2), .op (.mv (.tmp 6)), none⟩]) (.kill [0, 3, 4, 5, 6]))
  .ret))
theorem cf_impl_symbol : chkFn Try.prog i_impl_symbol ac_impl_symbol [.tmp 2] 7 = true := by decide +kernel
def fa_impl_symbol : FnA := ⟨ac_impl_symbol, [.tmp 2], 7, false, true⟩

/-- The checked code of impl UnwrapRewriter 1. -/
def ac_impl_UnwrapRewriter_1 : AC := (.ghost (.kill [0]) (.seq (.reg [⟨(some 5), .op (.alloc (Value.agg #[Value.int .i64 0, Value.int .i64 0, Value.string ⟨#[]⟩])), none⟩])
  (.seq (.seq (.post (.draw [⟨0, ⟨(some 6), .op (.mv (.tmp 1)), none⟩, []⟩,
    ⟨2, ⟨(some 8), .op (.load 1 false (.tmp 2)), none⟩, []⟩,
    ⟨1, ⟨(some 7), .call (.func i_impl_symbol) [(.tmp 6)], none⟩, [2]⟩,
    ⟨3, ⟨(some 9), .op (.bin .eql (.tmp 7) (.tmp 8)), none⟩, []⟩]
    [0, 1, 0, 7]) (.kill [2, 6, 7, 8]))
  (.cond (.tmp 9) (.ghost (.kill [1, 9]) (.seq (.post (.reg [⟨(some 10), .op (.build [Value.int .i64 0, Value.int .i64 0, Value.string ⟨#[]⟩] [(1, 1, (.const (Value.int .i64 1)))]), none⟩,
    ⟨none, .op (.store 3 (.tmp 5) (.tmp 10)), none⟩]) (.kill [10]))
  .ret))
  (.ghost (.kill [9]) .skip)))
  (.seq (.post (.reg [⟨(some 11), .op (.mv (.tmp 1)), none⟩,
    ⟨(some 12), .call (.func i_impl_symbol) [(.tmp 11)], none⟩,
    ⟨(some 13), .op (.build [Value.int .i64 0, Value.int .i64 0, Value.string ⟨#[]⟩] [(2, 1, (.tmp 12))]), none⟩,
    ⟨none, .op (.store 3 (.tmp 5) (.tmp 13)), none⟩]) (.kill [1, 11, 12, 13]))
  .ret))))
theorem cf_impl_UnwrapRewriter_1 : chkFn Try.prog i_impl_UnwrapRewriter_1 ac_impl_UnwrapRewriter_1 [.cell 5 3 true] 14 = true := by decide +kernel
def fa_impl_UnwrapRewriter_1 : FnA := ⟨ac_impl_UnwrapRewriter_1, [.cell 5 3 true], 14, false, true⟩

/-- The checked code of impl UnwrapRewriter 2. -/
def ac_impl_UnwrapRewriter_2 : AC := (.ghost (.kill [0]) (.seq (.reg [⟨(some 6), .op (.alloc (Value.agg #[Value.int .i64 0, Value.string ⟨#[]⟩])), none⟩])
  (.seq (.seq (.post (.reg [⟨(some 7), .op (.mv (.tmp 2)), none⟩,
    ⟨(some 8), .op (.bin .eql (.tmp 7) (.const (Value.int .i64 1))), none⟩]) (.kill [2, 7]))
  (.cond (.tmp 8) (.ghost (.kill [1, 8]) (.seq (.post (.reg [⟨(some 9), .op (.build [Value.int .i64 0, Value.string ⟨#[]⟩] []), none⟩,
    ⟨none, .op (.store 2 (.tmp 6) (.tmp 9)), none⟩]) (.kill [9]))
  .ret))
  (.ghost (.kill [8]) .skip)))
  (.seq (.post (.reg [⟨(some 10), .op (.mv (.tmp 1)), none⟩,
    ⟨(some 11), .op (.bin .add (.const (Value.int .i64 2)) (.tmp 10)), none⟩,
    ⟨(some 12), .call (.func i_impl_symbol) [(.tmp 11)], none⟩,
    ⟨(some 13), .op (.build [Value.int .i64 0, Value.string ⟨#[]⟩] [(1, 1, (.tmp 12))]), none⟩,
    ⟨none, .op (.store 2 (.tmp 6) (.tmp 13)), none⟩]) (.kill [1, 10, 11, 12, 13]))
  .ret))))
theorem cf_impl_UnwrapRewriter_2 : chkFn Try.prog i_impl_UnwrapRewriter_2 ac_impl_UnwrapRewriter_2 [.cell 6 2 true] 14 = true := by decide +kernel
def fa_impl_UnwrapRewriter_2 : FnA := ⟨ac_impl_UnwrapRewriter_2, [.cell 6 2 true], 14, false, true⟩

/-- The checked code of impl UnwrapRewriter 3. -/
def ac_impl_UnwrapRewriter_3 : AC := (.ghost (.kill [0]) (.seq (.reg [⟨(some 4), .op (.alloc (Value.agg #[Value.int .i64 0, Value.string ⟨#[]⟩])), none⟩])
  (.seq (.post (.reg [⟨(some 5), .op (.mv (.tmp 1)), none⟩,
    ⟨(some 6), .op (.bin .add (.const (Value.int .i64 4)) (.tmp 5)), none⟩,
    ⟨(some 7), .call (.func i_impl_symbol) [(.tmp 6)], none⟩,
    ⟨(some 8), .op (.build [Value.int .i64 0, Value.string ⟨#[]⟩] [(1, 1, (.tmp 7))]), none⟩,
    ⟨none, .op (.store 2 (.tmp 4) (.tmp 8)), none⟩]) (.kill [1, 5, 6, 7, 8]))
  .ret)))
theorem cf_impl_UnwrapRewriter_3 : chkFn Try.prog i_impl_UnwrapRewriter_3 ac_impl_UnwrapRewriter_3 [.cell 4 2 true] 9 = true := by decide +kernel
def fa_impl_UnwrapRewriter_3 : FnA := ⟨ac_impl_UnwrapRewriter_3, [.cell 4 2 true], 9, false, true⟩

/-- The checked code of impl UnwrapRewriter. -/
def ac_impl_UnwrapRewriter : AC := (.seq (.post (.reg [⟨(some 1), .op (.box true (.tmp 0)), none⟩,
    ⟨(some 2), .op (.alloc (Value.agg #[Value.int .i64 0, Value.int .i64 0, Value.slice none 0 0, Value.slice none 0 0, Value.slice none 0 0])), none⟩,
    ⟨(some 3), .op (.mv (.const (Value.int .i64 0))), none⟩]) (.kill [0, 3]))
  (.seq (.seq (.post (.reg [⟨(some 4), .op (.load 1 false (.tmp 1)), none⟩,
    ⟨(some 5), .op (.bin .neq (.tmp 4) (.const (Value.string ⟨#[40]⟩))), none⟩,
    ⟨(some 6), .op (.mv (.tmp 5)), none⟩,
    ⟨(some 7), .op (.load 1 false (.tmp 1)), some (6, true)⟩,
    ⟨(some 8), .op (.bin .neq (.tmp 7) (.const (Value.string ⟨#[91]⟩))), some (6, true)⟩,
    ⟨(some 9), .op (.pick (.tmp 6) (.tmp 8) (.const (Value.bool false))), none⟩]) (.kill [4, 5, 6, 7, 8]))
  (.cond (.tmp 9) (.ghost (.kill [1, 9]) (.seq (.post (.reg [⟨(some 10), .op (.build [Value.int .i64 0, Value.int .i64 0, Value.slice none 0 0, Value.slice none 0 0, Value.slice none 0 0] []), none⟩,
    ⟨none, .op (.store 5 (.tmp 2) (.tmp 10)), none⟩,
    ⟨(some 3), .op (.mv (.const (Value.int .i64 2))), none⟩]) (.kill [10]))
  .ret))
  (.ghost (.kill [9]) .skip)))
  (.seq (.post (.reg [⟨(some 11), .op (.mkfn i_impl_UnwrapRewriter_1 [(.tmp 1)]), none⟩,
    ⟨(some 12), .call (.func i_impl_builtRewriter) [(.const (Value.int .i64 1)), (.const (Value.int .i64 2)), (.const (Value.int .i64 0)), (.tmp 11), (.func i_impl_UnwrapRewriter_2), (.func i_impl_UnwrapRewriter_3)], none⟩,
    ⟨none, .op (.store 5 (.tmp 2) (.tmp 12)), none⟩,
    ⟨(some 3), .op (.mv (.const (Value.int .i64 0))), none⟩]) (.kill [1, 11, 12]))
  .ret)))
theorem cf_impl_UnwrapRewriter : chkFn Try.prog i_impl_UnwrapRewriter ac_impl_UnwrapRewriter [.cell 2 5 true, .tmp 3] 13 = true := by decide +kernel
def fa_impl_UnwrapRewriter : FnA := ⟨ac_impl_UnwrapRewriter, [.cell 2 5 true, .tmp 3], 13, false, false⟩

/-- The checked code of laws FnExactUnwrapRewriter. -/
def ac_laws_FnExactUnwrapRewriter : AC := (.seq (.post (.reg [⟨(some 2), .op (.mv (.const (Value.bool false))), none⟩]) (.kill [2]))
  (.seq (.seq (.post (.reg [⟨(some 11), .op (.mv (.tmp 0)), none⟩,
    ⟨(some 12), .op (.len true (.tmp 11)), none⟩,
    ⟨(some 13), .op (.bin .gtr (.tmp 12) (.const (Value.int .i64 1048576))), none⟩]) (.kill [11, 12]))
  (.cond (.tmp 13) (.ghost (.kill [0, 13]) (.seq (.reg [⟨(some 2), .op (.mv (.const (Value.bool true))), none⟩])
  .ret))
  (.ghost (.kill [13]) .skip)))
  (.seq (.post (.reg [⟨(some 15), .op (.mv (.tmp 0)), none⟩,
    ⟨(some 16), .call (.func i_spec_UnwrapRewriter) [(.tmp 15)], none⟩,
    ⟨(some 14), .op (.mv (.tmp 16)), none⟩,
    ⟨(some 17), .op (.ext (.tmp 14) 0), none⟩,
    ⟨(some 18), .op (.ext (.tmp 14) 1), none⟩,
    ⟨(some 3), .op (.alloc (Value.agg #[Value.int .i64 0, Value.int .i64 0, Value.slice none 0 0, Value.slice none 0 0, Value.slice none 0 0])), none⟩,
    ⟨none, .op (.store 5 (.tmp 3) (.tmp 17)), none⟩,
    ⟨(some 4), .op (.mv (.tmp 18)), none⟩]) (.kill [14, 15, 16, 17, 18]))
  (.seq (.post (.reg [⟨(some 20), .op (.mv (.tmp 0)), none⟩,
    ⟨(some 21), .call (.func i_impl_UnwrapRewriter) [(.tmp 20)], none⟩,
    ⟨(some 19), .op (.mv (.tmp 21)), none⟩,
    ⟨(some 22), .op (.ext (.tmp 19) 0), none⟩,
    ⟨(some 23), .op (.ext (.tmp 19) 1), none⟩,
    ⟨(some 5), .op (.alloc (Value.agg #[Value.int .i64 0, Value.int .i64 0, Value.slice none 0 0, Value.slice none 0 0, Value.slice none 0 0])), none⟩,
    ⟨none, .op (.store 5 (.tmp 5) (.tmp 22)), none⟩,
    ⟨(some 6), .op (.mv (.tmp 23)), none⟩]) (.kill [19, 20, 21, 22, 23]))
  (.seq (.seq (.post (.reg [⟨(some 24), .op (.load 5 true (.tmp 5)), none⟩,
    ⟨(some 25), .op (.load 5 true (.tmp 3)), none⟩,
    ⟨(some 26), .call (.func i_laws_eqRewriter) [(.tmp 24), (.tmp 25)], none⟩,
    ⟨(some 27), .op (.un .not (.tmp 26)), none⟩,
    ⟨(some 28), .op (.mv (.tmp 27)), none⟩,
    ⟨(some 29), .op (.mv (.tmp 6)), some (28, false)⟩,
    ⟨(some 30), .op (.mv (.tmp 4)), some (28, false)⟩,
    ⟨(some 31), .op (.bin .neq (.tmp 29) (.tmp 30)), some (28, false)⟩,
    ⟨(some 32), .op (.pick (.tmp 28) (.const (Value.bool true)) (.tmp 31)), none⟩]) (.kill [6, 24, 25, 26, 27, 28, 29, 30, 31]))
  (.cond (.tmp 32) (.ghost (.kill [0, 3, 4, 5, 32]) (.seq (.reg [⟨(some 2), .op (.mv (.const (Value.bool false))), none⟩])
  .ret))
  (.ghost (.kill [32]) .skip)))
  (.seq (.reg [⟨(some 7), .op (.mv (.const (Value.int .i64 1))), none⟩])
  (.seq (.post (.reg [⟨(some 33), .op (.load 5 true (.tmp 5)), none⟩,
    ⟨(some 34), .op (.mv (.tmp 7)), none⟩,
    ⟨(some 35), .call (.func i_laws_markRewriter) [(.tmp 33), (.tmp 34)], none⟩,
    ⟨(some 7), .op (.mv (.tmp 35)), none⟩]) (.kill [33, 34, 35]))
  (.seq (.reg [⟨(some 8), .op (.mv (.const (Value.int .i64 1))), none⟩])
  (.seq (.post (.reg [⟨(some 36), .op (.load 5 true (.tmp 5)), none⟩,
    ⟨(some 37), .op (.mv (.tmp 8)), none⟩,
    ⟨(some 38), .call (.func i_laws_heldRewriter) [(.tmp 36), (.tmp 37)], none⟩,
    ⟨(some 8), .op (.mv (.tmp 38)), none⟩]) (.kill [36, 37, 38]))
  (.seq (.seq (.post (.reg [⟨(some 39), .op (.mv (.tmp 8)), none⟩,
    ⟨(some 40), .op (.bin .lss (.tmp 39) (.const (Value.int .i64 0))), none⟩]) (.kill [39]))
  (.cond (.tmp 40) (.ghost (.kill [0, 3, 4, 5, 7, 8, 40]) (.seq (.reg [⟨(some 2), .op (.mv (.const (Value.bool false))), none⟩])
  .ret))
  (.ghost (.kill [40]) .skip)))
  (.seq (.seq (.post (.reg [⟨(some 41), .op (.mv (.tmp 8)), none⟩,
    ⟨(some 42), .op (.mv (.tmp 7)), none⟩,
    ⟨(some 43), .op (.bin .neq (.tmp 41) (.tmp 42)), none⟩]) (.kill [8, 41, 42]))
  (.cond (.tmp 43) (.ghost (.kill [0, 3, 4, 5, 7, 43]) (.seq (.reg [⟨(some 2), .op (.mv (.const (Value.bool false))), none⟩])
  .ret))
  (.ghost (.kill [43]) .skip)))
  (.seq (.post (.reg [⟨(some 45), .op (.mv (.tmp 0)), none⟩,
    ⟨(some 46), .call (.func i_impl_UnwrapRewriter) [(.tmp 45)], none⟩,
    ⟨(some 44), .op (.mv (.tmp 46)), none⟩,
    ⟨(some 47), .op (.ext (.tmp 44) 0), none⟩,
    ⟨(some 48), .op (.ext (.tmp 44) 1), none⟩,
    ⟨(some 9), .op (.alloc (Value.agg #[Value.int .i64 0, Value.int .i64 0, Value.slice none 0 0, Value.slice none 0 0, Value.slice none 0 0])), none⟩,
    ⟨none, .op (.store 5 (.tmp 9) (.tmp 47)), none⟩,
    ⟨(some 10), .op (.mv (.tmp 48)), none⟩]) (.kill [0, 44, 45, 46, 47, 48]))
  (.seq (.seq (.post (.reg [⟨(some 49), .op (.load 5 true (.tmp 9)), none⟩,
    ⟨(some 50), .op (.load 5 true (.tmp 3)), none⟩,
    ⟨(some 51), .call (.func i_laws_eqRewriter) [(.tmp 49), (.tmp 50)], none⟩,
    ⟨(some 52), .op (.un .not (.tmp 51)), none⟩,
    ⟨(some 53), .op (.mv (.tmp 52)), none⟩,
    ⟨(some 54), .op (.mv (.tmp 10)), some (53, false)⟩,
    ⟨(some 55), .op (.mv (.tmp 4)), some (53, false)⟩,
    ⟨(some 56), .op (.bin .neq (.tmp 54) (.tmp 55)), some (53, false)⟩,
    ⟨(some 57), .op (.pick (.tmp 53) (.const (Value.bool true)) (.tmp 56)), none⟩]) (.kill [3, 4, 9, 10, 49, 50, 51, 52, 53, 54, 55, 56]))
  (.cond (.tmp 57) (.ghost (.kill [5, 7, 57]) (.seq (.reg [⟨(some 2), .op (.mv (.const (Value.bool false))), none⟩])
  .ret))
  (.ghost (.kill [57]) .skip)))
  (.seq (.reg [⟨(some 8), .op (.mv (.const (Value.int .i64 1))), none⟩])
  (.seq (.post (.reg [⟨(some 58), .op (.load 5 true (.tmp 5)), none⟩,
    ⟨(some 59), .op (.mv (.tmp 8)), none⟩,
    ⟨(some 60), .call (.func i_laws_heldRewriter) [(.tmp 58), (.tmp 59)], none⟩,
    ⟨(some 8), .op (.mv (.tmp 60)), none⟩]) (.kill [5, 58, 59, 60]))
  (.seq (.seq (.post (.reg [⟨(some 61), .op (.mv (.tmp 8)), none⟩,
    ⟨(some 62), .op (.bin .lss (.tmp 61) (.const (Value.int .i64 0))), none⟩]) (.kill [61]))
  (.cond (.tmp 62) (.ghost (.kill [7, 8, 62]) (.seq (.reg [⟨(some 2), .op (.mv (.const (Value.bool false))), none⟩])
  .ret))
  (.ghost (.kill [62]) .skip)))
  (.seq (.seq (.post (.reg [⟨(some 63), .op (.mv (.tmp 8)), none⟩,
    ⟨(some 64), .op (.mv (.tmp 7)), none⟩,
    ⟨(some 65), .op (.bin .neq (.tmp 63) (.tmp 64)), none⟩]) (.kill [7, 8, 63, 64]))
  (.cond (.tmp 65) (.ghost (.kill [65]) (.seq (.reg [⟨(some 2), .op (.mv (.const (Value.bool false))), none⟩])
  .ret))
  (.ghost (.kill [65]) .skip)))
  (.seq (.reg [⟨(some 2), .op (.mv (.const (Value.bool true))), none⟩])
  .ret))))))))))))))))))
theorem cf_laws_FnExactUnwrapRewriter : chkFn Try.prog i_laws_FnExactUnwrapRewriter ac_laws_FnExactUnwrapRewriter [.tmp 2] 66 = true := by decide +kernel
def fa_laws_FnExactUnwrapRewriter : FnA := ⟨ac_laws_FnExactUnwrapRewriter, [.tmp 2], 66, false, true⟩

/-- The checked code of spec l06Letter. -/
def ac_spec_l06Letter : AC := (.seq (.post (.reg [⟨(some 2), .op (.mv (.const (Value.int .i64 0))), none⟩]) (.kill [2]))
  (.seq (.seq (.post (.reg [⟨(some 3), .op (.mv (.tmp 0)), none⟩]) (.kill [0]))
  (.block 0 (.seq (.post (.reg [⟨(some 5), .op (.bin .eql (.tmp 3) (.const (Value.string ⟨#[97]⟩))), none⟩,
    ⟨(some 4), .op (.mv (.tmp 5)), none⟩]) (.kill [5]))
  (.cond (.tmp 4) (.ghost (.kill [3, 4]) (.seq (.reg [⟨(some 2), .op (.mv (.const (Value.int .i64 0))), none⟩])
  .ret))
  (.ghost (.kill [4]) (.seq (.post (.reg [⟨(some 7), .op (.bin .eql (.tmp 3) (.const (Value.string ⟨#[98]⟩))), none⟩,
    ⟨(some 6), .op (.mv (.tmp 7)), none⟩]) (.kill [3, 7]))
  (.cond (.tmp 6) (.ghost (.kill [6]) (.seq (.reg [⟨(some 2), .op (.mv (.const (Value.int .i64 1))), none⟩])
  .ret))
  (.ghost (.kill [6]) .skip))))))))
  (.seq (.reg [⟨(some 2), .op (.mv (.const (Value.int .i64 (-1)))), none⟩])
  .ret)))
theorem cf_spec_l06Letter : chkFn Try.prog i_spec_l06Letter ac_spec_l06Letter [.tmp 2] 8 = true := by decide +kernel
def fa_spec_l06Letter : FnA := ⟨ac_spec_l06Letter, [.tmp 2], 8, false, true⟩

/-- The checked code of spec ThinRewriter. -/
def ac_spec_ThinRewriter : AC := (.seq (.post (.reg [⟨(some 2), .op (.alloc (Value.agg #[Value.int .i64 0, Value.int .i64 0, Value.slice none 0 0, Value.slice none 0 0, Value.slice none 0 0])), none⟩,
    ⟨(some 3), .op (.mv (.const (Value.int .i64 0))), none⟩]) (.kill [3]))
  (.seq (.post (.reg [⟨(some 6), .op (.mv (.tmp 0)), none⟩,
    ⟨(some 7), .call (.func i_spec_l06Letter) [(.tmp 6)], none⟩,
    ⟨(some 4), .op (.mv (.tmp 7)), none⟩]) (.kill [6, 7]))
  (.seq (.seq (.post (.reg [⟨(some 8), .op (.mv (.tmp 4)), none⟩,
    ⟨(some 9), .op (.bin .lss (.tmp 8) (.const (Value.int .i64 0))), none⟩]) (.kill [8]))
  (.cond (.tmp 9) (.ghost (.kill [0, 4, 9]) (.seq (.post (.reg [⟨(some 10), .op (.build [Value.int .i64 0, Value.int .i64 0, Value.slice none 0 0, Value.slice none 0 0, Value.slice none 0 0] []), none⟩,
    ⟨none, .op (.store 5 (.tmp 2) (.tmp 10)), none⟩,
    ⟨(some 3), .op (.mv (.const (Value.int .i64 2))), none⟩]) (.kill [10]))
  .ret))
  (.ghost (.kill [9]) .skip)))
  (.seq (.post (.reg [⟨(some 11), .call (.func i_spec_l06Plain) [(.const (Value.int .i64 2)), (.const (Value.int .i64 1))], none⟩,
    ⟨(some 5), .op (.alloc (Value.agg #[Value.int .i64 0, Value.int .i64 0, Value.slice none 0 0, Value.slice none 0 0, Value.slice none 0 0])), none⟩,
    ⟨none, .op (.store 5 (.tmp 5) (.tmp 11)), none⟩]) (.kill [11]))
  (.seq (.post (.reg [⟨(some 12), .op (.faddr (.tmp 5) 4), none⟩,
    ⟨(some 13), .op (.load 1 false (.tmp 12)), none⟩,
    ⟨(some 14), .op (.iaddrS (.tmp 13) (.const (Value.int .i64 0)) 1), none⟩,
    ⟨(some 15), .op (.load 1 false (.tmp 14)), none⟩,
    ⟨(some 16), .op (.mv (.tmp 4)), none⟩,
    ⟨(some 17), .op (.build [Value.int .i64 0, Value.string ⟨#[]⟩] [(0, 1, (.const (Value.int .i64 1)))]), none⟩,
    ⟨(some 18), .op (.iaddrS (.tmp 15) (.tmp 16) 2), none⟩,
    ⟨none, .op (.store 2 (.tmp 18) (.tmp 17)), none⟩]) (.kill [12, 13, 14, 15, 16, 17, 18]))
  (.seq (.post (.reg [⟨(some 19), .op (.faddr (.tmp 5) 4), none⟩,
    ⟨(some 20), .op (.load 1 false (.tmp 19)), none⟩,
    ⟨(some 21), .op (.iaddrS (.tmp 20) (.const (Value.int .i64 1)) 1), none⟩,
    ⟨(some 22), .op (.load 1 false (.tmp 21)), none⟩,
    ⟨(some 23), .op (.mv (.tmp 4)), none⟩,
    ⟨(some 24), .op (.mv (.tmp 0)), none⟩,
    ⟨(some 25), .op (.build [Value.int .i64 0, Value.string ⟨#[]⟩] [(0, 1, (.const (Value.int .i64 0))), (1, 1, (.tmp 24))]), none⟩,
    ⟨(some 26), .op (.iaddrS (.tmp 22) (.tmp 23) 2), none⟩,
    ⟨none, .op (.store 2 (.tmp 26) (.tmp 25)), none⟩]) (.kill [0, 4, 19, 20, 21, 22, 23, 24, 25, 26]))
  (.seq (.post (.reg [⟨(some 27), .op (.load 5 true (.tmp 5)), none⟩,
    ⟨none, .op (.store 5 (.tmp 2) (.tmp 27)), none⟩,
    ⟨(some 3), .op (.mv (.const (Value.int .i64 0))), none⟩]) (.kill [5, 27]))
  .ret)))))))
theorem cf_spec_ThinRewriter : chkFn Try.prog i_spec_ThinRewriter ac_spec_ThinRewriter [.cell 2 5 true, .tmp 3] 28 = true := by decide +kernel
def fa_spec_ThinRewriter : FnA := ⟨ac_spec_ThinRewriter, [.cell 2 5 true, .tmp 3], 28, false, true⟩

/-- The checked code of impl ThinRewriter 1. -/
def ac_impl_ThinRewriter_1 : AC := (.seq (.reg [⟨(some 4), .op (.alloc (Value.agg #[Value.int .i64 0, Value.int .i64 0, Value.string ⟨#[]⟩])), none⟩])
  (.seq (.post (.reg [⟨(some 5), .op (.mv (.tmp 0)), none⟩,
    ⟨(some 6), .op (.mv (.tmp 1)), none⟩,
    ⟨(some 7), .call (.func i_impl_symbol) [(.tmp 6)], none⟩,
    ⟨(some 8), .op (.build [Value.int .i64 0, Value.int .i64 0, Value.string ⟨#[]⟩] [(0, 1, (.tmp 5)), (2, 1, (.tmp 7))]), none⟩,
    ⟨none, .op (.store 3 (.tmp 4) (.tmp 8)), none⟩]) (.kill [0, 1, 5, 6, 7, 8]))
  .ret))
theorem cf_impl_ThinRewriter_1 : chkFn Try.prog i_impl_ThinRewriter_1 ac_impl_ThinRewriter_1 [.cell 4 3 true] 9 = true := by decide +kernel
def fa_impl_ThinRewriter_1 : FnA := ⟨ac_impl_ThinRewriter_1, [.cell 4 3 true], 9, false, true⟩

/-- The checked code of impl ThinRewriter 2. -/
def ac_impl_ThinRewriter_2 : AC := (.ghost (.kill [2]) (.seq (.reg [⟨(some 6), .op (.alloc (Value.agg #[Value.int .i64 0, Value.string ⟨#[]⟩])), none⟩])
  (.seq (.post (.reg [⟨(some 7), .op (.mv (.tmp 0)), none⟩,
    ⟨(some 8), .op (.mv (.tmp 1)), none⟩,
    ⟨(some 9), .op (.bin .add (.const (Value.int .i64 2)) (.tmp 8)), none⟩,
    ⟨(some 10), .call (.func i_impl_symbol) [(.tmp 9)], none⟩,
    ⟨(some 11), .op (.build [Value.int .i64 0, Value.string ⟨#[]⟩] [(0, 1, (.tmp 7)), (1, 1, (.tmp 10))]), none⟩,
    ⟨none, .op (.store 2 (.tmp 6) (.tmp 11)), none⟩]) (.kill [0, 1, 7, 8, 9, 10, 11]))
  .ret)))
theorem cf_impl_ThinRewriter_2 : chkFn Try.prog i_impl_ThinRewriter_2 ac_impl_ThinRewriter_2 [.cell 6 2 true] 12 = true := by decide +kernel
def fa_impl_ThinRewriter_2 : FnA := ⟨ac_impl_ThinRewriter_2, [.cell 6 2 true], 12, false, true⟩

/-- The checked code of impl ThinRewriter 3. -/
def ac_impl_ThinRewriter_3 : AC := (.seq (.reg [⟨(some 5), .op (.alloc (Value.agg #[Value.int .i64 0, Value.string ⟨#[]⟩])), none⟩])
  (.seq (.post (.reg [⟨(some 7), .op (.mv (.tmp 1)), none⟩,
    ⟨(some 8), .op (.bin .add (.const (Value.int .i64 4)) (.tmp 7)), none⟩,
    ⟨(some 9), .call (.func i_impl_symbol) [(.tmp 8)], none⟩,
    ⟨(some 6), .op (.mv (.tmp 9)), none⟩]) (.kill [1, 7, 8, 9]))
  (.block 0 (.seq (.post (.reg [⟨(some 13), .op (.mv (.tmp 6)), none⟩,
    ⟨(some 14), .op (.load 1 false (.tmp 2)), none⟩,
    ⟨(some 15), .op (.bin .neq (.tmp 13) (.tmp 14)), none⟩,
    ⟨(some 12), .op (.mv (.tmp 15)), none⟩]) (.kill [2, 13, 14, 15]))
  (.cond (.tmp 12) (.ghost (.kill [12]) (.seq (.post (.reg [⟨(some 16), .op (.mv (.tmp 0)), none⟩,
    ⟨(some 17), .op (.mv (.tmp 6)), none⟩,
    ⟨(some 18), .op (.build [Value.int .i64 0, Value.string ⟨#[]⟩] [(0, 1, (.tmp 16)), (1, 1, (.tmp 17))]), none⟩,
    ⟨none, .op (.store 2 (.tmp 5) (.tmp 18)), none⟩]) (.kill [0, 6, 16, 17, 18]))
  .ret))
  (.ghost (.kill [12]) (.seq (.post (.reg [⟨(some 20), .op (.mv (.tmp 0)), none⟩,
    ⟨(some 21), .op (.bin .eql (.tmp 20) (.const (Value.int .i64 0))), none⟩,
    ⟨(some 19), .op (.mv (.tmp 21)), none⟩]) (.kill [0, 20, 21]))
  (.cond (.tmp 19) (.ghost (.kill [6, 19]) (.seq (.post (.reg [⟨(some 22), .op (.build [Value.int .i64 0, Value.string ⟨#[]⟩] [(0, 1, (.const (Value.int .i64 1))), (1, 1, (.const (Value.string ⟨#[]⟩)))]), none⟩,
    ⟨none, .op (.store 2 (.tmp 5) (.tmp 22)), none⟩]) (.kill [22]))
  .ret))
  (.ghost (.kill [19]) (.seq (.post (.reg [⟨(some 10), .op (.mv (.tmp 6)), none⟩,
    ⟨(some 11), .op (.build [Value.int .i64 0, Value.string ⟨#[]⟩] [(0, 1, (.const (Value.int .i64 0))), (1, 1, (.tmp 10))]), none⟩,
    ⟨none, .op (.store 2 (.tmp 5) (.tmp 11)), none⟩]) (.kill [6, 10, 11]))
  .ret))))))))))
theorem cf_impl_ThinRewriter_3 : chkFn Try.prog i_impl_ThinRewriter_3 ac_impl_ThinRewriter_3 [.cell 5 2 true] 23 = true := by decide +kernel
def fa_impl_ThinRewriter_3 : FnA := ⟨ac_impl_ThinRewriter_3, [.cell 5 2 true], 23, false, true⟩

/-- The checked code of impl ThinRewriter. -/
def ac_impl_ThinRewriter : AC := (.seq (.post (.reg [⟨(some 1), .op (.box true (.tmp 0)), none⟩,
    ⟨(some 2), .op (.alloc (Value.agg #[Value.int .i64 0, Value.int .i64 0, Value.slice none 0 0, Value.slice none 0 0, Value.slice none 0 0])), none⟩,
    ⟨(some 3), .op (.mv (.const (Value.int .i64 0))), none⟩]) (.kill [0, 3]))
  (.seq (.seq (.post (.reg [⟨(some 4), .op (.load 1 false (.tmp 1)), none⟩,
    ⟨(some 5), .call (.func i_impl_isLetter) [(.tmp 4)], none⟩,
    ⟨(some 6), .op (.un .not (.tmp 5)), none⟩]) (.kill [4, 5]))
  (.cond (.tmp 6) (.ghost (.kill [1, 6]) (.seq (.post (.reg [⟨(some 7), .op (.build [Value.int .i64 0, Value.int .i64 0, Value.slice none 0 0, Value.slice none 0 0, Value.slice none 0 0] []), none⟩,
    ⟨none, .op (.store 5 (.tmp 2) (.tmp 7)), none⟩,
    ⟨(some 3), .op (.mv (.const (Value.int .i64 2))), none⟩]) (.kill [7]))
  .ret))
  (.ghost (.kill [6]) .skip)))
  (.seq (.post (.reg [⟨(some 8), .op (.mkfn i_impl_ThinRewriter_3 [(.tmp 1)]), none⟩,
    ⟨(some 9), .call (.func i_impl_builtRewriter) [(.const (Value.int .i64 2)), (.const (Value.int .i64 1)), (.const (Value.int .i64 0)), (.func i_impl_ThinRewriter_1), (.func i_impl_ThinRewriter_2), (.tmp 8)], none⟩,
    ⟨none, .op (.store 5 (.tmp 2) (.tmp 9)), none⟩,
    ⟨(some 3), .op (.mv (.const (Value.int .i64 0))), none⟩]) (.kill [1, 8, 9]))
  .ret)))
theorem cf_impl_ThinRewriter : chkFn Try.prog i_impl_ThinRewriter ac_impl_ThinRewriter [.cell 2 5 true, .tmp 3] 10 = true := by decide +kernel
def fa_impl_ThinRewriter : FnA := ⟨ac_impl_ThinRewriter, [.cell 2 5 true, .tmp 3], 10, false, false⟩

/-- The checked code of laws FnExactThinRewriter. -/
def ac_laws_FnExactThinRewriter : AC := (.seq (.post (.reg [⟨(some 2), .op (.mv (.const (Value.bool false))), none⟩]) (.kill [2]))
  (.seq (.seq (.post (.reg [⟨(some 11), .op (.mv (.tmp 0)), none⟩,
    ⟨(some 12), .op (.len true (.tmp 11)), none⟩,
    ⟨(some 13), .op (.bin .gtr (.tmp 12) (.const (Value.int .i64 1048576))), none⟩]) (.kill [11, 12]))
  (.cond (.tmp 13) (.ghost (.kill [0, 13]) (.seq (.reg [⟨(some 2), .op (.mv (.const (Value.bool true))), none⟩])
  .ret))
  (.ghost (.kill [13]) .skip)))
  (.seq (.post (.reg [⟨(some 15), .op (.mv (.tmp 0)), none⟩,
    ⟨(some 16), .call (.func i_spec_ThinRewriter) [(.tmp 15)], none⟩,
    ⟨(some 14), .op (.mv (.tmp 16)), none⟩,
    ⟨(some 17), .op (.ext (.tmp 14) 0), none⟩,
    ⟨(some 18), .op (.ext (.tmp 14) 1), none⟩,
    ⟨(some 3), .op (.alloc (Value.agg #[Value.int .i64 0, Value.int .i64 0, Value.slice none 0 0, Value.slice none 0 0, Value.slice none 0 0])), none⟩,
    ⟨none, .op (.store 5 (.tmp 3) (.tmp 17)), none⟩,
    ⟨(some 4), .op (.mv (.tmp 18)), none⟩]) (.kill [14, 15, 16, 17, 18]))
  (.seq (.post (.reg [⟨(some 20), .op (.mv (.tmp 0)), none⟩,
    ⟨(some 21), .call (.func i_impl_ThinRewriter) [(.tmp 20)], none⟩,
    ⟨(some 19), .op (.mv (.tmp 21)), none⟩,
    ⟨(some 22), .op (.ext (.tmp 19) 0), none⟩,
    ⟨(some 23), .op (.ext (.tmp 19) 1), none⟩,
    ⟨(some 5), .op (.alloc (Value.agg #[Value.int .i64 0, Value.int .i64 0, Value.slice none 0 0, Value.slice none 0 0, Value.slice none 0 0])), none⟩,
    ⟨none, .op (.store 5 (.tmp 5) (.tmp 22)), none⟩,
    ⟨(some 6), .op (.mv (.tmp 23)), none⟩]) (.kill [19, 20, 21, 22, 23]))
  (.seq (.seq (.post (.reg [⟨(some 24), .op (.load 5 true (.tmp 5)), none⟩,
    ⟨(some 25), .op (.load 5 true (.tmp 3)), none⟩,
    ⟨(some 26), .call (.func i_laws_eqRewriter) [(.tmp 24), (.tmp 25)], none⟩,
    ⟨(some 27), .op (.un .not (.tmp 26)), none⟩,
    ⟨(some 28), .op (.mv (.tmp 27)), none⟩,
    ⟨(some 29), .op (.mv (.tmp 6)), some (28, false)⟩,
    ⟨(some 30), .op (.mv (.tmp 4)), some (28, false)⟩,
    ⟨(some 31), .op (.bin .neq (.tmp 29) (.tmp 30)), some (28, false)⟩,
    ⟨(some 32), .op (.pick (.tmp 28) (.const (Value.bool true)) (.tmp 31)), none⟩]) (.kill [6, 24, 25, 26, 27, 28, 29, 30, 31]))
  (.cond (.tmp 32) (.ghost (.kill [0, 3, 4, 5, 32]) (.seq (.reg [⟨(some 2), .op (.mv (.const (Value.bool false))), none⟩])
  .ret))
  (.ghost (.kill [32]) .skip)))
  (.seq (.reg [⟨(some 7), .op (.mv (.const (Value.int .i64 1))), none⟩])
  (.seq (.post (.reg [⟨(some 33), .op (.load 5 true (.tmp 5)), none⟩,
    ⟨(some 34), .op (.mv (.tmp 7)), none⟩,
    ⟨(some 35), .call (.func i_laws_markRewriter) [(.tmp 33), (.tmp 34)], none⟩,
    ⟨(some 7), .op (.mv (.tmp 35)), none⟩]) (.kill [33, 34, 35]))
  (.seq (.reg [⟨(some 8), .op (.mv (.const (Value.int .i64 1))), none⟩])
  (.seq (.post (.reg [⟨(some 36), .op (.load 5 true (.tmp 5)), none⟩,
    ⟨(some 37), .op (.mv (.tmp 8)), none⟩,
    ⟨(some 38), .call (.func i_laws_heldRewriter) [(.tmp 36), (.tmp 37)], none⟩,
    ⟨(some 8), .op (.mv (.tmp 38)), none⟩]) (.kill [36, 37, 38]))
  (.seq (.seq (.post (.reg [⟨(some 39), .op (.mv (.tmp 8)), none⟩,
    ⟨(some 40), .op (.bin .lss (.tmp 39) (.const (Value.int .i64 0))), none⟩]) (.kill [39]))
  (.cond (.tmp 40) (.ghost (.kill [0, 3, 4, 5, 7, 8, 40]) (.seq (.reg [⟨(some 2), .op (.mv (.const (Value.bool false))), none⟩])
  .ret))
  (.ghost (.kill [40]) .skip)))
  (.seq (.seq (.post (.reg [⟨(some 41), .op (.mv (.tmp 8)), none⟩,
    ⟨(some 42), .op (.mv (.tmp 7)), none⟩,
    ⟨(some 43), .op (.bin .neq (.tmp 41) (.tmp 42)), none⟩]) (.kill [8, 41, 42]))
  (.cond (.tmp 43) (.ghost (.kill [0, 3, 4, 5, 7, 43]) (.seq (.reg [⟨(some 2), .op (.mv (.const (Value.bool false))), none⟩])
  .ret))
  (.ghost (.kill [43]) .skip)))
  (.seq (.post (.reg [⟨(some 45), .op (.mv (.tmp 0)), none⟩,
    ⟨(some 46), .call (.func i_impl_ThinRewriter) [(.tmp 45)], none⟩,
    ⟨(some 44), .op (.mv (.tmp 46)), none⟩,
    ⟨(some 47), .op (.ext (.tmp 44) 0), none⟩,
    ⟨(some 48), .op (.ext (.tmp 44) 1), none⟩,
    ⟨(some 9), .op (.alloc (Value.agg #[Value.int .i64 0, Value.int .i64 0, Value.slice none 0 0, Value.slice none 0 0, Value.slice none 0 0])), none⟩,
    ⟨none, .op (.store 5 (.tmp 9) (.tmp 47)), none⟩,
    ⟨(some 10), .op (.mv (.tmp 48)), none⟩]) (.kill [0, 44, 45, 46, 47, 48]))
  (.seq (.seq (.post (.reg [⟨(some 49), .op (.load 5 true (.tmp 9)), none⟩,
    ⟨(some 50), .op (.load 5 true (.tmp 3)), none⟩,
    ⟨(some 51), .call (.func i_laws_eqRewriter) [(.tmp 49), (.tmp 50)], none⟩,
    ⟨(some 52), .op (.un .not (.tmp 51)), none⟩,
    ⟨(some 53), .op (.mv (.tmp 52)), none⟩,
    ⟨(some 54), .op (.mv (.tmp 10)), some (53, false)⟩,
    ⟨(some 55), .op (.mv (.tmp 4)), some (53, false)⟩,
    ⟨(some 56), .op (.bin .neq (.tmp 54) (.tmp 55)), some (53, false)⟩,
    ⟨(some 57), .op (.pick (.tmp 53) (.const (Value.bool true)) (.tmp 56)), none⟩]) (.kill [3, 4, 9, 10, 49, 50, 51, 52, 53, 54, 55, 56]))
  (.cond (.tmp 57) (.ghost (.kill [5, 7, 57]) (.seq (.reg [⟨(some 2), .op (.mv (.const (Value.bool false))), none⟩])
  .ret))
  (.ghost (.kill [57]) .skip)))
  (.seq (.reg [⟨(some 8), .op (.mv (.const (Value.int .i64 1))), none⟩])
  (.seq (.post (.reg [⟨(some 58), .op (.load 5 true (.tmp 5)), none⟩,
    ⟨(some 59), .op (.mv (.tmp 8)), none⟩,
    ⟨(some 60), .call (.func i_laws_heldRewriter) [(.tmp 58), (.tmp 59)], none⟩,
    ⟨(some 8), .op (.mv (.tmp 60)), none⟩]) (.kill [5, 58, 59, 60]))
  (.seq (.seq (.post (.reg [⟨(some 61), .op (.mv (.tmp 8)), none⟩,
    ⟨(some 62), .op (.bin .lss (.tmp 61) (.const (Value.int .i64 0))), none⟩]) (.kill [61]))
  (.cond (.tmp 62) (.ghost (.kill [7, 8, 62]) (.seq (.reg [⟨(some 2), .op (.mv (.const (Value.bool false))), none⟩])
  .ret))
  (.ghost (.kill [62]) .skip)))
  (.seq (.seq (.post (.reg [⟨(some 63), .op (.mv (.tmp 8)), none⟩,
    ⟨(some 64), .op (.mv (.tmp 7)), none⟩,
    ⟨(some 65), .op (.bin .neq (.tmp 63) (.tmp 64)), none⟩]) (.kill [7, 8, 63, 64]))
  (.cond (.tmp 65) (.ghost (.kill [65]) (.seq (.reg [⟨(some 2), .op (.mv (.const (Value.bool false))), none⟩])
  .ret))
  (.ghost (.kill [65]) .skip)))
  (.seq (.reg [⟨(some 2), .op (.mv (.const (Value.bool true))), none⟩])
  .ret))))))))))))))))))
theorem cf_laws_FnExactThinRewriter : chkFn Try.prog i_laws_FnExactThinRewriter ac_laws_FnExactThinRewriter [.tmp 2] 66 = true := by decide +kernel
def fa_laws_FnExactThinRewriter : FnA := ⟨ac_laws_FnExactThinRewriter, [.tmp 2], 66, false, true⟩

/-- The checked code of spec DropRewriter. -/
def ac_spec_DropRewriter : AC := (.seq (.post (.reg [⟨(some 2), .op (.alloc (Value.agg #[Value.int .i64 0, Value.int .i64 0, Value.slice none 0 0, Value.slice none 0 0, Value.slice none 0 0])), none⟩,
    ⟨(some 3), .op (.mv (.const (Value.int .i64 0))), none⟩]) (.kill [3]))
  (.seq (.post (.reg [⟨(some 6), .op (.mv (.tmp 0)), none⟩,
    ⟨(some 7), .call (.func i_spec_l06Letter) [(.tmp 6)], none⟩,
    ⟨(some 4), .op (.mv (.tmp 7)), none⟩]) (.kill [0, 6, 7]))
  (.seq (.seq (.post (.reg [⟨(some 8), .op (.mv (.tmp 4)), none⟩,
    ⟨(some 9), .op (.bin .lss (.tmp 8) (.const (Value.int .i64 0))), none⟩]) (.kill [8]))
  (.cond (.tmp 9) (.ghost (.kill [4, 9]) (.seq (.post (.reg [⟨(some 10), .op (.build [Value.int .i64 0, Value.int .i64 0, Value.slice none 0 0, Value.slice none 0 0, Value.slice none 0 0] []), none⟩,
    ⟨none, .op (.store 5 (.tmp 2) (.tmp 10)), none⟩,
    ⟨(some 3), .op (.mv (.const (Value.int .i64 2))), none⟩]) (.kill [10]))
  .ret))
  (.ghost (.kill [9]) .skip)))
  (.seq (.post (.reg [⟨(some 11), .call (.func i_spec_l06Plain) [(.const (Value.int .i64 1)), (.const (Value.int .i64 1))], none⟩,
    ⟨(some 5), .op (.alloc (Value.agg #[Value.int .i64 0, Value.int .i64 0, Value.slice none 0 0, Value.slice none 0 0, Value.slice none 0 0])), none⟩,
    ⟨none, .op (.store 5 (.tmp 5) (.tmp 11)), none⟩]) (.kill [11]))
  (.seq (.post (.reg [⟨(some 12), .op (.faddr (.tmp 5) 4), none⟩,
    ⟨(some 13), .op (.load 1 false (.tmp 12)), none⟩,
    ⟨(some 14), .op (.iaddrS (.tmp 13) (.const (Value.int .i64 0)) 1), none⟩,
    ⟨(some 15), .op (.load 1 false (.tmp 14)), none⟩,
    ⟨(some 16), .op (.mv (.tmp 4)), none⟩,
    ⟨(some 17), .op (.iaddrS (.tmp 15) (.tmp 16) 2), none⟩,
    ⟨(some 18), .op (.faddr (.tmp 17) 1), none⟩,
    ⟨none, .op (.store 1 (.tmp 18) (.const (Value.string ⟨#[]⟩))), none⟩]) (.kill [4, 12, 13, 14, 15, 16, 17, 18]))
  (.seq (.post (.reg [⟨(some 19), .op (.load 5 true (.tmp 5)), none⟩,
    ⟨none, .op (.store 5 (.tmp 2) (.tmp 19)), none⟩,
    ⟨(some 3), .op (.mv (.const (Value.int .i64 0))), none⟩]) (.kill [5, 19]))
  .ret))))))
theorem cf_spec_DropRewriter : chkFn Try.prog i_spec_DropRewriter ac_spec_DropRewriter [.cell 2 5 true, .tmp 3] 20 = true := by decide +kernel
def fa_spec_DropRewriter : FnA := ⟨ac_spec_DropRewriter, [.cell 2 5 true, .tmp 3], 20, false, true⟩

/-- The checked code of impl renaming 1. -/
def ac_impl_renaming_1 : AC := (.ghost (.kill [0]) (.seq (.reg [⟨(some 5), .op (.alloc (Value.agg #[Value.int .i64 0, Value.int .i64 0, Value.string ⟨#[]⟩])), none⟩])
  (.seq (.post (.reg [⟨(some 6), .op (.load 1 false (.tmp 2)), none⟩,
    ⟨(some 7), .op (.mv (.tmp 1)), none⟩,
    ⟨(some 8), .call (.tmp 6) [(.tmp 7)], none⟩,
    ⟨(some 9), .op (.build [Value.int .i64 0, Value.int .i64 0, Value.string ⟨#[]⟩] [(2, 1, (.tmp 8))]), none⟩,
    ⟨none, .op (.store 3 (.tmp 5) (.tmp 9)), none⟩]) (.kill [1, 2, 6, 7, 8, 9]))
  .ret)))
theorem cf_impl_renaming_1 : chkFn Try.prog i_impl_renaming_1 ac_impl_renaming_1 [.cell 5 3 true] 10 = true := by decide +kernel
def fa_impl_renaming_1 : FnA := ⟨ac_impl_renaming_1, [.cell 5 3 true], 10, false, true⟩

/-- The checked code of impl renaming 2. -/
def ac_impl_renaming_2 : AC := (.ghost (.kill [0, 2]) (.seq (.reg [⟨(some 7), .op (.alloc (Value.agg #[Value.int .i64 0, Value.string ⟨#[]⟩])), none⟩])
  (.seq (.post (.reg [⟨(some 8), .op (.load 1 false (.tmp 3)), none⟩,
    ⟨(some 9), .op (.mv (.tmp 1)), none⟩,
    ⟨(some 10), .op (.bin .add (.const (Value.int .i64 2)) (.tmp 9)), none⟩,
    ⟨(some 11), .call (.tmp 8) [(.tmp 10)], none⟩,
    ⟨(some 12), .op (.build [Value.int .i64 0, Value.string ⟨#[]⟩] [(1, 1, (.tmp 11))]), none⟩,
    ⟨none, .op (.store 2 (.tmp 7) (.tmp 12)), none⟩]) (.kill [1, 3, 8, 9, 10, 11, 12]))
  .ret)))
theorem cf_impl_renaming_2 : chkFn Try.prog i_impl_renaming_2 ac_impl_renaming_2 [.cell 7 2 true] 13 = true := by decide +kernel
def fa_impl_renaming_2 : FnA := ⟨ac_impl_renaming_2, [.cell 7 2 true], 13, false, true⟩

/-- The checked code of impl renaming 3. -/
def ac_impl_renaming_3 : AC := (.ghost (.kill [0]) (.seq (.reg [⟨(some 5), .op (.alloc (Value.agg #[Value.int .i64 0, Value.string ⟨#[]⟩])), none⟩])
  (.seq (.post (.reg [⟨(some 6), .op (.load 1 false (.tmp 2)), none⟩,
    ⟨(some 7), .op (.mv (.tmp 1)), none⟩,
    ⟨(some 8), .op (.bin .add (.const (Value.int .i64 4)) (.tmp 7)), none⟩,
    ⟨(some 9), .call (.tmp 6) [(.tmp 8)], none⟩,
    ⟨(some 10), .op (.build [Value.int .i64 0, Value.string ⟨#[]⟩] [(1, 1, (.tmp 9))]), none⟩,
    ⟨none, .op (.store 2 (.tmp 5) (.tmp 10)), none⟩]) (.kill [1, 2, 6, 7, 8, 9, 10]))
  .ret)))
theorem cf_impl_renaming_3 : chkFn Try.prog i_impl_renaming_3 ac_impl_renaming_3 [.cell 5 2 true] 11 = true := by decide +kernel
def fa_impl_renaming_3 : FnA := ⟨ac_impl_renaming_3, [.cell 5 2 true], 11, false, true⟩

/-- The checked code of impl renaming. -/
def ac_impl_renaming : AC := (.seq (.post (.reg [⟨(some 1), .op (.box true (.tmp 0)), none⟩,
    ⟨(some 2), .op (.alloc (Value.agg #[Value.int .i64 0, Value.int .i64 0, Value.slice none 0 0, Value.slice none 0 0, Value.slice none 0 0])), none⟩]) (.kill [0]))
  (.seq (.post (.reg [⟨(some 3), .op (.mkfn i_impl_renaming_1 [(.tmp 1)]), none⟩,
    ⟨(some 4), .op (.mkfn i_impl_renaming_2 [(.tmp 1)]), none⟩,
    ⟨(some 5), .op (.mkfn i_impl_renaming_3 [(.tmp 1)]), none⟩,
    ⟨(some 6), .call (.func i_impl_builtRewriter) [(.const (Value.int .i64 1)), (.const (Value.int .i64 1)), (.const (Value.int .i64 0)), (.tmp 3), (.tmp 4), (.tmp 5)], none⟩,
    ⟨none, .op (.store 5 (.tmp 2) (.tmp 6)), none⟩]) (.kill [1, 3, 4, 5, 6]))
  .ret))
theorem cf_impl_renaming : chkFn Try.prog i_impl_renaming ac_impl_renaming [.cell 2 5 true] 7 = true := by decide +kernel
def fa_impl_renaming : FnA := ⟨ac_impl_renaming, [.cell 2 5 true], 7, false, false⟩

/-- The checked code of impl DropRewriter 1. -/
def ac_impl_DropRewriter_1 : AC := (.seq (.post (.reg [⟨(some 3), .op (.mv (.const (Value.string ⟨#[]⟩))), none⟩]) (.kill [3]))
  (.seq (.seq (.post (.draw [⟨0, ⟨(some 4), .op (.mv (.tmp 0)), none⟩, []⟩,
    ⟨2, ⟨(some 6), .op (.load 1 false (.tmp 1)), none⟩, []⟩,
    ⟨1, ⟨(some 5), .call (.func i_impl_symbol) [(.tmp 4)], none⟩, [2]⟩,
    ⟨3, ⟨(some 7), .op (.bin .eql (.tmp 5) (.tmp 6)), none⟩, []⟩]
    [0, 1, 0, 7]) (.kill [1, 4, 5, 6]))
  (.cond (.tmp 7) (.ghost (.kill [0, 7]) (.seq (.reg [⟨(some 3), .op (.mv (.const (Value.string ⟨#[]⟩))), none⟩])
  .ret))
  (.ghost (.kill [7]) .skip)))
  (.seq (.post (.reg [⟨(some 8), .op (.mv (.tmp 0)), none⟩,
    ⟨(some 9), .call (.func i_impl_symbol) [(.tmp 8)], none⟩,
    ⟨(some 3), .op (.mv (.tmp 9)), none⟩]) (.kill [0, 8, 9]))
  .ret)))
theorem cf_impl_DropRewriter_1 : chkFn Try.prog i_impl_DropRewriter_1 ac_impl_DropRewriter_1 [.tmp 3] 10 = true := by decide +kernel
def fa_impl_DropRewriter_1 : FnA := ⟨ac_impl_DropRewriter_1, [.tmp 3], 10, false, true⟩

/-- The checked code of impl DropRewriter. -/
def ac_impl_DropRewriter : AC := (.seq (.post (.reg [⟨(some 1), .op (.box true (.tmp 0)), none⟩,
    ⟨(some 2), .op (.alloc (Value.agg #[Value.int .i64 0, Value.int .i64 0, Value.slice none 0 0, Value.slice none 0 0, Value.slice none 0 0])), none⟩,
    ⟨(some 3), .op (.mv (.const (Value.int .i64 0))), none⟩]) (.kill [0, 3]))
  (.seq (.seq (.post (.reg [⟨(some 4), .op (.load 1 false (.tmp 1)), none⟩,
    ⟨(some 5), .call (.func i_impl_isLetter) [(.tmp 4)], none⟩,
    ⟨(some 6), .op (.un .not (.tmp 5)), none⟩]) (.kill [4, 5]))
  (.cond (.tmp 6) (.ghost (.kill [1, 6]) (.seq (.post (.reg [⟨(some 7), .op (.build [Value.int .i64 0, Value.int .i64 0, Value.slice none 0 0, Value.slice none 0 0, Value.slice none 0 0] []), none⟩,
    ⟨none, .op (.store 5 (.tmp 2) (.tmp 7)), none⟩,
    ⟨(some 3), .op (.mv (.const (Value.int .i64 2))), none⟩]) (.kill [7]))
  .ret))
  (.ghost (.kill [6]) .skip)))
  (.seq (.post (.reg [⟨(some 8), .op (.mkfn i_impl_DropRewriter_1 [(.tmp 1)]), none⟩,
    ⟨(some 9), .call (.func i_impl_renaming) [(.tmp 8)], none⟩,
    ⟨none, .op (.store 5 (.tmp 2) (.tmp 9)), none⟩,
    ⟨(some 3), .op (.mv (.const (Value.int .i64 0))), none⟩]) (.kill [1, 8, 9]))
  .ret)))
theorem cf_impl_DropRewriter : chkFn Try.prog i_impl_DropRewriter ac_impl_DropRewriter [.cell 2 5 true, .tmp 3] 10 = true := by decide +kernel
def fa_impl_DropRewriter : FnA := ⟨ac_impl_DropRewriter, [.cell 2 5 true, .tmp 3], 10, false, false⟩

/-- The checked code of laws FnExactDropRewriter. -/
def ac_laws_FnExactDropRewriter : AC := (.seq (.post (.reg [⟨(some 2), .op (.mv (.const (Value.bool false))), none⟩]) (.kill [2]))
  (.seq (.seq (.post (.reg [⟨(some 11), .op (.mv (.tmp 0)), none⟩,
    ⟨(some 12), .op (.len true (.tmp 11)), none⟩,
    ⟨(some 13), .op (.bin .gtr (.tmp 12) (.const (Value.int .i64 1048576))), none⟩]) (.kill [11, 12]))
  (.cond (.tmp 13) (.ghost (.kill [0, 13]) (.seq (.reg [⟨(some 2), .op (.mv (.const (Value.bool true))), none⟩])
  .ret))
  (.ghost (.kill [13]) .skip)))
  (.seq (.post (.reg [⟨(some 15), .op (.mv (.tmp 0)), none⟩,
    ⟨(some 16), .call (.func i_spec_DropRewriter) [(.tmp 15)], none⟩,
    ⟨(some 14), .op (.mv (.tmp 16)), none⟩,
    ⟨(some 17), .op (.ext (.tmp 14) 0), none⟩,
    ⟨(some 18), .op (.ext (.tmp 14) 1), none⟩,
    ⟨(some 3), .op (.alloc (Value.agg #[Value.int .i64 0, Value.int .i64 0, Value.slice none 0 0, Value.slice none 0 0, Value.slice none 0 0])), none⟩,
    ⟨none, .op (.store 5 (.tmp 3) (.tmp 17)), none⟩,
    ⟨(some 4), .op (.mv (.tmp 18)), none⟩]) (.kill [14, 15, 16, 17, 18]))
  (.seq (.post (.reg [⟨(some 20), .op (.mv (.tmp 0)), none⟩,
    ⟨(some 21), .call (.func i_impl_DropRewriter) [(.tmp 20)], none⟩,
    ⟨(some 19), .op (.mv (.tmp 21)), none⟩,
    ⟨(some 22), .op (.ext (.tmp 19) 0), none⟩,
    ⟨(some 23), .op (.ext (.tmp 19) 1), none⟩,
    ⟨(some 5), .op (.alloc (Value.agg #[Value.int .i64 0, Value.int .i64 0, Value.slice none 0 0, Value.slice none 0 0, Value.slice none 0 0])), none⟩,
    ⟨none, .op (.store 5 (.tmp 5) (.tmp 22)), none⟩,
    ⟨(some 6), .op (.mv (.tmp 23)), none⟩]) (.kill [19, 20, 21, 22, 23]))
  (.seq (.seq (.post (.reg [⟨(some 24), .op (.load 5 true (.tmp 5)), none⟩,
    ⟨(some 25), .op (.load 5 true (.tmp 3)), none⟩,
    ⟨(some 26), .call (.func i_laws_eqRewriter) [(.tmp 24), (.tmp 25)], none⟩,
    ⟨(some 27), .op (.un .not (.tmp 26)), none⟩,
    ⟨(some 28), .op (.mv (.tmp 27)), none⟩,
    ⟨(some 29), .op (.mv (.tmp 6)), some (28, false)⟩,
    ⟨(some 30), .op (.mv (.tmp 4)), some (28, false)⟩,
    ⟨(some 31), .op (.bin .neq (.tmp 29) (.tmp 30)), some (28, false)⟩,
    ⟨(some 32), .op (.pick (.tmp 28) (.const (Value.bool true)) (.tmp 31)), none⟩]) (.kill [6, 24, 25, 26, 27, 28, 29, 30, 31]))
  (.cond (.tmp 32) (.ghost (.kill [0, 3, 4, 5, 32]) (.seq (.reg [⟨(some 2), .op (.mv (.const (Value.bool false))), none⟩])
  .ret))
  (.ghost (.kill [32]) .skip)))
  (.seq (.reg [⟨(some 7), .op (.mv (.const (Value.int .i64 1))), none⟩])
  (.seq (.post (.reg [⟨(some 33), .op (.load 5 true (.tmp 5)), none⟩,
    ⟨(some 34), .op (.mv (.tmp 7)), none⟩,
    ⟨(some 35), .call (.func i_laws_markRewriter) [(.tmp 33), (.tmp 34)], none⟩,
    ⟨(some 7), .op (.mv (.tmp 35)), none⟩]) (.kill [33, 34, 35]))
  (.seq (.reg [⟨(some 8), .op (.mv (.const (Value.int .i64 1))), none⟩])
  (.seq (.post (.reg [⟨(some 36), .op (.load 5 true (.tmp 5)), none⟩,
    ⟨(some 37), .op (.mv (.tmp 8)), none⟩,
    ⟨(some 38), .call (.func i_laws_heldRewriter) [(.tmp 36), (.tmp 37)], none⟩,
    ⟨(some 8), .op (.mv (.tmp 38)), none⟩]) (.kill [36, 37, 38]))
  (.seq (.seq (.post (.reg [⟨(some 39), .op (.mv (.tmp 8)), none⟩,
    ⟨(some 40), .op (.bin .lss (.tmp 39) (.const (Value.int .i64 0))), none⟩]) (.kill [39]))
  (.cond (.tmp 40) (.ghost (.kill [0, 3, 4, 5, 7, 8, 40]) (.seq (.reg [⟨(some 2), .op (.mv (.const (Value.bool false))), none⟩])
  .ret))
  (.ghost (.kill [40]) .skip)))
  (.seq (.seq (.post (.reg [⟨(some 41), .op (.mv (.tmp 8)), none⟩,
    ⟨(some 42), .op (.mv (.tmp 7)), none⟩,
    ⟨(some 43), .op (.bin .neq (.tmp 41) (.tmp 42)), none⟩]) (.kill [8, 41, 42]))
  (.cond (.tmp 43) (.ghost (.kill [0, 3, 4, 5, 7, 43]) (.seq (.reg [⟨(some 2), .op (.mv (.const (Value.bool false))), none⟩])
  .ret))
  (.ghost (.kill [43]) .skip)))
  (.seq (.post (.reg [⟨(some 45), .op (.mv (.tmp 0)), none⟩,
    ⟨(some 46), .call (.func i_impl_DropRewriter) [(.tmp 45)], none⟩,
    ⟨(some 44), .op (.mv (.tmp 46)), none⟩,
    ⟨(some 47), .op (.ext (.tmp 44) 0), none⟩,
    ⟨(some 48), .op (.ext (.tmp 44) 1), none⟩,
    ⟨(some 9), .op (.alloc (Value.agg #[Value.int .i64 0, Value.int .i64 0, Value.slice none 0 0, Value.slice none 0 0, Value.slice none 0 0])), none⟩,
    ⟨none, .op (.store 5 (.tmp 9) (.tmp 47)), none⟩,
    ⟨(some 10), .op (.mv (.tmp 48)), none⟩]) (.kill [0, 44, 45, 46, 47, 48]))
  (.seq (.seq (.post (.reg [⟨(some 49), .op (.load 5 true (.tmp 9)), none⟩,
    ⟨(some 50), .op (.load 5 true (.tmp 3)), none⟩,
    ⟨(some 51), .call (.func i_laws_eqRewriter) [(.tmp 49), (.tmp 50)], none⟩,
    ⟨(some 52), .op (.un .not (.tmp 51)), none⟩,
    ⟨(some 53), .op (.mv (.tmp 52)), none⟩,
    ⟨(some 54), .op (.mv (.tmp 10)), some (53, false)⟩,
    ⟨(some 55), .op (.mv (.tmp 4)), some (53, false)⟩,
    ⟨(some 56), .op (.bin .neq (.tmp 54) (.tmp 55)), some (53, false)⟩,
    ⟨(some 57), .op (.pick (.tmp 53) (.const (Value.bool true)) (.tmp 56)), none⟩]) (.kill [3, 4, 9, 10, 49, 50, 51, 52, 53, 54, 55, 56]))
  (.cond (.tmp 57) (.ghost (.kill [5, 7, 57]) (.seq (.reg [⟨(some 2), .op (.mv (.const (Value.bool false))), none⟩])
  .ret))
  (.ghost (.kill [57]) .skip)))
  (.seq (.reg [⟨(some 8), .op (.mv (.const (Value.int .i64 1))), none⟩])
  (.seq (.post (.reg [⟨(some 58), .op (.load 5 true (.tmp 5)), none⟩,
    ⟨(some 59), .op (.mv (.tmp 8)), none⟩,
    ⟨(some 60), .call (.func i_laws_heldRewriter) [(.tmp 58), (.tmp 59)], none⟩,
    ⟨(some 8), .op (.mv (.tmp 60)), none⟩]) (.kill [5, 58, 59, 60]))
  (.seq (.seq (.post (.reg [⟨(some 61), .op (.mv (.tmp 8)), none⟩,
    ⟨(some 62), .op (.bin .lss (.tmp 61) (.const (Value.int .i64 0))), none⟩]) (.kill [61]))
  (.cond (.tmp 62) (.ghost (.kill [7, 8, 62]) (.seq (.reg [⟨(some 2), .op (.mv (.const (Value.bool false))), none⟩])
  .ret))
  (.ghost (.kill [62]) .skip)))
  (.seq (.seq (.post (.reg [⟨(some 63), .op (.mv (.tmp 8)), none⟩,
    ⟨(some 64), .op (.mv (.tmp 7)), none⟩,
    ⟨(some 65), .op (.bin .neq (.tmp 63) (.tmp 64)), none⟩]) (.kill [7, 8, 63, 64]))
  (.cond (.tmp 65) (.ghost (.kill [65]) (.seq (.reg [⟨(some 2), .op (.mv (.const (Value.bool false))), none⟩])
  .ret))
  (.ghost (.kill [65]) .skip)))
  (.seq (.reg [⟨(some 2), .op (.mv (.const (Value.bool true))), none⟩])
  .ret))))))))))))))))))
theorem cf_laws_FnExactDropRewriter : chkFn Try.prog i_laws_FnExactDropRewriter ac_laws_FnExactDropRewriter [.tmp 2] 66 = true := by decide +kernel
def fa_laws_FnExactDropRewriter : FnA := ⟨ac_laws_FnExactDropRewriter, [.tmp 2], 66, false, true⟩

/-- The checked code of laws szOutPush. -/
def ac_laws_szOutPush : AC := (.seq (.post (.reg [⟨(some 2), .op (.box true (.tmp 0)), none⟩,
    ⟨(some 4), .op (.mv (.const (Value.int .i64 0))), none⟩]) (.kill [0, 4]))
  (.seq (.post (.reg [⟨(some 5), .op (.mv (.tmp 1)), none⟩,
    ⟨(some 6), .op (.faddr (.tmp 2) 2), none⟩,
    ⟨(some 7), .op (.load 1 false (.tmp 6)), none⟩,
    ⟨(some 8), .op (.len true (.tmp 7)), none⟩,
    ⟨(some 9), .op (.bin .sub (.tmp 5) (.tmp 8)), none⟩,
    ⟨(some 1), .op (.mv (.tmp 9)), none⟩]) (.kill [2, 5, 6, 7, 8, 9]))
  (.seq (.seq (.post (.reg [⟨(some 10), .op (.mv (.tmp 1)), none⟩,
    ⟨(some 11), .op (.bin .lss (.tmp 10) (.const (Value.int .i64 0))), none⟩]) (.kill [10]))
  (.cond (.tmp 11) (.ghost (.kill [1, 11]) (.seq (.reg [⟨(some 4), .op (.mv (.const (Value.int .i64 (-1)))), none⟩])
  .ret))
  (.ghost (.kill [11]) .skip)))
  (.seq (.post (.reg [⟨(some 12), .op (.mv (.tmp 1)), none⟩,
    ⟨(some 4), .op (.mv (.tmp 12)), none⟩]) (.kill [1, 12]))
  .ret))))
theorem cf_laws_szOutPush : chkFn Try.prog i_laws_szOutPush ac_laws_szOutPush [.tmp 4] 13 = true := by decide +kernel
def fa_laws_szOutPush : FnA := ⟨ac_laws_szOutPush, [.tmp 4], 13, false, true⟩

/-- The checked code of laws szOutPushS. -/
def lb_laws_szOutPushS_0 : AC := (.seq (.seq (.post (.reg [⟨(some 12), .op (.mv (.tmp 5)), none⟩,
    ⟨(some 13), .op (.mv (.tmp 0)), none⟩,
    ⟨(some 14), .op (.len false (.tmp 13)), none⟩,
    ⟨(some 15), .op (.bin .lss (.tmp 12) (.tmp 14)), none⟩]) (.kill [12, 13, 14]))
  (.cond (.tmp 15) (.ghost (.kill [15]) .skip)
  (.ghost (.kill [0, 5, 15]) (.exit 0))))
  (.seq (.block 1 (.seq (.post (.reg [⟨(some 18), .op (.mv (.tmp 0)), none⟩,
    ⟨(some 19), .op (.mv (.tmp 5)), none⟩,
    ⟨(some 20), .op (.iaddrS (.tmp 18) (.tmp 19) 3), none⟩,
    ⟨(some 21), .op (.load 3 true (.tmp 20)), none⟩,
    ⟨(some 22), .op (.mv (.tmp 1)), none⟩,
    ⟨(some 23), .call (.func i_laws_szOutPush) [(.tmp 21), (.tmp 22)], none⟩,
    ⟨(some 1), .op (.mv (.tmp 23)), none⟩]) (.kill [18, 19, 20, 21, 22, 23]))
  (.seq (.post (.reg [⟨(some 24), .op (.mv (.tmp 1)), none⟩,
    ⟨(some 25), .op (.bin .lss (.tmp 24) (.const (Value.int .i64 0))), none⟩]) (.kill [24]))
  (.cond (.tmp 25) (.ghost (.kill [0, 1, 5, 25]) (.seq (.reg [⟨(some 4), .op (.mv (.const (Value.int .i64 (-1)))), none⟩])
  .ret))
  (.ghost (.kill [25]) .skip)))))
  (.post (.reg [⟨(some 16), .op (.mv (.tmp 5)), none⟩,
    ⟨(some 17), .op (.bin .add (.tmp 16) (.const (Value.int .i64 1))), none⟩,
    ⟨(some 5), .op (.mv (.tmp 17)), none⟩]) (.kill [16, 17]))))
def lo_laws_szOutPushS_0 : AC := (.loop lb_laws_szOutPushS_0)
def ac_laws_szOutPushS : AC := (.seq (.post (.reg [⟨(some 4), .op (.mv (.const (Value.int .i64 0))), none⟩]) (.kill [4]))
  (.seq (.post (.reg [⟨(some 6), .op (.mv (.tmp 1)), none⟩,
    ⟨(some 7), .op (.mv (.tmp 0)), none⟩,
    ⟨(some 8), .op (.len false (.tmp 7)), none⟩,
    ⟨(some 9), .op (.bin .sub (.tmp 6) (.tmp 8)), none⟩,
    ⟨(some 1), .op (.mv (.tmp 9)), none⟩]) (.kill [6, 7, 8, 9]))
  (.seq (.seq (.post (.reg [⟨(some 10), .op (.mv (.tmp 1)), none⟩,
    ⟨(some 11), .op (.bin .lss (.tmp 10) (.const (Value.int .i64 0))), none⟩]) (.kill [10]))
  (.cond (.tmp 11) (.ghost (.kill [0, 1, 11]) (.seq (.reg [⟨(some 4), .op (.mv (.const (Value.int .i64 (-1)))), none⟩])
  .ret))
  (.ghost (.kill [11]) .skip)))
  (.seq (.seq (.reg [⟨(some 5), .op (.mv (.const (Value.int .i64 0))), none⟩])
  (.block 0 lo_laws_szOutPushS_0))
  (.ghost (.kill [0, 5]) (.seq (.post (.reg [⟨(some 26), .op (.mv (.tmp 1)), none⟩,
    ⟨(some 4), .op (.mv (.tmp 26)), none⟩]) (.kill [1, 26]))
  .ret))))))
theorem cf_laws_szOutPushS : chkFn Try.prog i_laws_szOutPushS ac_laws_szOutPushS [.tmp 4] 27 = true := by decide +kernel
def fa_laws_szOutPushS : FnA := ⟨ac_laws_szOutPushS, [.tmp 4], 27, false, true⟩

/-- The checked code of laws szOutPushSS. -/
def lb_laws_szOutPushSS_0 : AC := (.seq (.seq (.post (.reg [⟨(some 12), .op (.mv (.tmp 5)), none⟩,
    ⟨(some 13), .op (.mv (.tmp 0)), none⟩,
    ⟨(some 14), .op (.len false (.tmp 13)), none⟩,
    ⟨(some 15), .op (.bin .lss (.tmp 12) (.tmp 14)), none⟩]) (.kill [12, 13, 14]))
  (.cond (.tmp 15) (.ghost (.kill [15]) .skip)
  (.ghost (.kill [0, 5, 15]) (.exit 0))))
  (.seq (.block 1 (.seq (.post (.reg [⟨(some 18), .op (.mv (.tmp 0)), none⟩,
    ⟨(some 19), .op (.mv (.tmp 5)), none⟩,
    ⟨(some 20), .op (.iaddrS (.tmp 18) (.tmp 19) 1), none⟩,
    ⟨(some 21), .op (.load 1 false (.tmp 20)), none⟩,
    ⟨(some 22), .op (.mv (.tmp 1)), none⟩,
    ⟨(some 23), .call (.func i_laws_szOutPushS) [(.tmp 21), (.tmp 22)], none⟩,
    ⟨(some 1), .op (.mv (.tmp 23)), none⟩]) (.kill [18, 19, 20, 21, 22, 23]))
  (.seq (.post (.reg [⟨(some 24), .op (.mv (.tmp 1)), none⟩,
    ⟨(some 25), .op (.bin .lss (.tmp 24) (.const (Value.int .i64 0))), none⟩]) (.kill [24]))
  (.cond (.tmp 25) (.ghost (.kill [0, 1, 5, 25]) (.seq (.reg [⟨(some 4), .op (.mv (.const (Value.int .i64 (-1)))), none⟩])
  .ret))
  (.ghost (.kill [25]) .skip)))))
  (.post (.reg [⟨(some 16), .op (.mv (.tmp 5)), none⟩,
    ⟨(some 17), .op (.bin .add (.tmp 16) (.const (Value.int .i64 1))), none⟩,
    ⟨(some 5), .op (.mv (.tmp 17)), none⟩]) (.kill [16, 17]))))
def lo_laws_szOutPushSS_0 : AC := (.loop lb_laws_szOutPushSS_0)
def ac_laws_szOutPushSS : AC := (.seq (.post (.reg [⟨(some 4), .op (.mv (.const (Value.int .i64 0))), none⟩]) (.kill [4]))
  (.seq (.post (.reg [⟨(some 6), .op (.mv (.tmp 1)), none⟩,
    ⟨(some 7), .op (.mv (.tmp 0)), none⟩,
    ⟨(some 8), .op (.len false (.tmp 7)), none⟩,
    ⟨(some 9), .op (.bin .sub (.tmp 6) (.tmp 8)), none⟩,
    ⟨(some 1), .op (.mv (.tmp 9)), none⟩]) (.kill [6, 7, 8, 9]))
  (.seq (.seq (.post (.reg [⟨(some 10), .op (.mv (.tmp 1)), none⟩,
    ⟨(some 11), .op (.bin .lss (.tmp 10) (.const (Value.int .i64 0))), none⟩]) (.kill [10]))
  (.cond (.tmp 11) (.ghost (.kill [0, 1, 11]) (.seq (.reg [⟨(some 4), .op (.mv (.const (Value.int .i64 (-1)))), none⟩])
  .ret))
  (.ghost (.kill [11]) .skip)))
  (.seq (.seq (.reg [⟨(some 5), .op (.mv (.const (Value.int .i64 0))), none⟩])
  (.block 0 lo_laws_szOutPushSS_0))
  (.ghost (.kill [0, 5]) (.seq (.post (.reg [⟨(some 26), .op (.mv (.tmp 1)), none⟩,
    ⟨(some 4), .op (.mv (.tmp 26)), none⟩]) (.kill [1, 26]))
  .ret))))))
theorem cf_laws_szOutPushSS : chkFn Try.prog i_laws_szOutPushSS ac_laws_szOutPushSS [.tmp 4] 27 = true := by decide +kernel
def fa_laws_szOutPushSS : FnA := ⟨ac_laws_szOutPushSS, [.tmp 4], 27, false, true⟩

/-- The checked code of laws szOutMove. -/
def ac_laws_szOutMove : AC := (.seq (.post (.reg [⟨(some 2), .op (.box true (.tmp 0)), none⟩,
    ⟨(some 4), .op (.mv (.const (Value.int .i64 0))), none⟩]) (.kill [0, 4]))
  (.seq (.post (.reg [⟨(some 5), .op (.mv (.tmp 1)), none⟩,
    ⟨(some 6), .op (.faddr (.tmp 2) 1), none⟩,
    ⟨(some 7), .op (.load 1 false (.tmp 6)), none⟩,
    ⟨(some 8), .op (.len true (.tmp 7)), none⟩,
    ⟨(some 9), .op (.bin .sub (.tmp 5) (.tmp 8)), none⟩,
    ⟨(some 1), .op (.mv (.tmp 9)), none⟩]) (.kill [2, 5, 6, 7, 8, 9]))
  (.seq (.seq (.post (.reg [⟨(some 10), .op (.mv (.tmp 1)), none⟩,
    ⟨(some 11), .op (.bin .lss (.tmp 10) (.const (Value.int .i64 0))), none⟩]) (.kill [10]))
  (.cond (.tmp 11) (.ghost (.kill [1, 11]) (.seq (.reg [⟨(some 4), .op (.mv (.const (Value.int .i64 (-1)))), none⟩])
  .ret))
  (.ghost (.kill [11]) .skip)))
  (.seq (.post (.reg [⟨(some 12), .op (.mv (.tmp 1)), none⟩,
    ⟨(some 4), .op (.mv (.tmp 12)), none⟩]) (.kill [1, 12]))
  .ret))))
theorem cf_laws_szOutMove : chkFn Try.prog i_laws_szOutMove ac_laws_szOutMove [.tmp 4] 13 = true := by decide +kernel
def fa_laws_szOutMove : FnA := ⟨ac_laws_szOutMove, [.tmp 4], 13, false, true⟩

/-- The checked code of laws szOutMoveS. -/
def lb_laws_szOutMoveS_0 : AC := (.seq (.seq (.post (.reg [⟨(some 12), .op (.mv (.tmp 5)), none⟩,
    ⟨(some 13), .op (.mv (.tmp 0)), none⟩,
    ⟨(some 14), .op (.len false (.tmp 13)), none⟩,
    ⟨(some 15), .op (.bin .lss (.tmp 12) (.tmp 14)), none⟩]) (.kill [12, 13, 14]))
  (.cond (.tmp 15) (.ghost (.kill [15]) .skip)
  (.ghost (.kill [0, 5, 15]) (.exit 0))))
  (.seq (.block 1 (.seq (.post (.reg [⟨(some 18), .op (.mv (.tmp 0)), none⟩,
    ⟨(some 19), .op (.mv (.tmp 5)), none⟩,
    ⟨(some 20), .op (.iaddrS (.tmp 18) (.tmp 19) 2), none⟩,
    ⟨(some 21), .op (.load 2 true (.tmp 20)), none⟩,
    ⟨(some 22), .op (.mv (.tmp 1)), none⟩,
    ⟨(some 23), .call (.func i_laws_szOutMove) [(.tmp 21), (.tmp 22)], none⟩,
    ⟨(some 1), .op (.mv (.tmp 23)), none⟩]) (.kill [18, 19, 20, 21, 22, 23]))
  (.seq (.post (.reg [⟨(some 24), .op (.mv (.tmp 1)), none⟩,
    ⟨(some 25), .op (.bin .lss (.tmp 24) (.const (Value.int .i64 0))), none⟩]) (.kill [24]))
  (.cond (.tmp 25) (.ghost (.kill [0, 1, 5, 25]) (.seq (.reg [⟨(some 4), .op (.mv (.const (Value.int .i64 (-1)))), none⟩])
  .ret))
  (.ghost (.kill [25]) .skip)))))
  (.post (.reg [⟨(some 16), .op (.mv (.tmp 5)), none⟩,
    ⟨(some 17), .op (.bin .add (.tmp 16) (.const (Value.int .i64 1))), none⟩,
    ⟨(some 5), .op (.mv (.tmp 17)), none⟩]) (.kill [16, 17]))))
def lo_laws_szOutMoveS_0 : AC := (.loop lb_laws_szOutMoveS_0)
def ac_laws_szOutMoveS : AC := (.seq (.post (.reg [⟨(some 4), .op (.mv (.const (Value.int .i64 0))), none⟩]) (.kill [4]))
  (.seq (.post (.reg [⟨(some 6), .op (.mv (.tmp 1)), none⟩,
    ⟨(some 7), .op (.mv (.tmp 0)), none⟩,
    ⟨(some 8), .op (.len false (.tmp 7)), none⟩,
    ⟨(some 9), .op (.bin .sub (.tmp 6) (.tmp 8)), none⟩,
    ⟨(some 1), .op (.mv (.tmp 9)), none⟩]) (.kill [6, 7, 8, 9]))
  (.seq (.seq (.post (.reg [⟨(some 10), .op (.mv (.tmp 1)), none⟩,
    ⟨(some 11), .op (.bin .lss (.tmp 10) (.const (Value.int .i64 0))), none⟩]) (.kill [10]))
  (.cond (.tmp 11) (.ghost (.kill [0, 1, 11]) (.seq (.reg [⟨(some 4), .op (.mv (.const (Value.int .i64 (-1)))), none⟩])
  .ret))
  (.ghost (.kill [11]) .skip)))
  (.seq (.seq (.reg [⟨(some 5), .op (.mv (.const (Value.int .i64 0))), none⟩])
  (.block 0 lo_laws_szOutMoveS_0))
  (.ghost (.kill [0, 5]) (.seq (.post (.reg [⟨(some 26), .op (.mv (.tmp 1)), none⟩,
    ⟨(some 4), .op (.mv (.tmp 26)), none⟩]) (.kill [1, 26]))
  .ret))))))
theorem cf_laws_szOutMoveS : chkFn Try.prog i_laws_szOutMoveS ac_laws_szOutMoveS [.tmp 4] 27 = true := by decide +kernel
def fa_laws_szOutMoveS : FnA := ⟨ac_laws_szOutMoveS, [.tmp 4], 27, false, true⟩

/-- The checked code of laws szOutMoveSS. -/
def lb_laws_szOutMoveSS_0 : AC := (.seq (.seq (.post (.reg [⟨(some 12), .op (.mv (.tmp 5)), none⟩,
    ⟨(some 13), .op (.mv (.tmp 0)), none⟩,
    ⟨(some 14), .op (.len false (.tmp 13)), none⟩,
    ⟨(some 15), .op (.bin .lss (.tmp 12) (.tmp 14)), none⟩]) (.kill [12, 13, 14]))
  (.cond (.tmp 15) (.ghost (.kill [15]) .skip)
  (.ghost (.kill [0, 5, 15]) (.exit 0))))
  (.seq (.block 1 (.seq (.post (.reg [⟨(some 18), .op (.mv (.tmp 0)), none⟩,
    ⟨(some 19), .op (.mv (.tmp 5)), none⟩,
    ⟨(some 20), .op (.iaddrS (.tmp 18) (.tmp 19) 1), none⟩,
    ⟨(some 21), .op (.load 1 false (.tmp 20)), none⟩,
    ⟨(some 22), .op (.mv (.tmp 1)), none⟩,
    ⟨(some 23), .call (.func i_laws_szOutMoveS) [(.tmp 21), (.tmp 22)], none⟩,
    ⟨(some 1), .op (.mv (.tmp 23)), none⟩]) (.kill [18, 19, 20, 21, 22, 23]))
  (.seq (.post (.reg [⟨(some 24), .op (.mv (.tmp 1)), none⟩,
    ⟨(some 25), .op (.bin .lss (.tmp 24) (.const (Value.int .i64 0))), none⟩]) (.kill [24]))
  (.cond (.tmp 25) (.ghost (.kill [0, 1, 5, 25]) (.seq (.reg [⟨(some 4), .op (.mv (.const (Value.int .i64 (-1)))), none⟩])
  .ret))
  (.ghost (.kill [25]) .skip)))))
  (.post (.reg [⟨(some 16), .op (.mv (.tmp 5)), none⟩,
    ⟨(some 17), .op (.bin .add (.tmp 16) (.const (Value.int .i64 1))), none⟩,
    ⟨(some 5), .op (.mv (.tmp 17)), none⟩]) (.kill [16, 17]))))
def lo_laws_szOutMoveSS_0 : AC := (.loop lb_laws_szOutMoveSS_0)
def ac_laws_szOutMoveSS : AC := (.seq (.post (.reg [⟨(some 4), .op (.mv (.const (Value.int .i64 0))), none⟩]) (.kill [4]))
  (.seq (.post (.reg [⟨(some 6), .op (.mv (.tmp 1)), none⟩,
    ⟨(some 7), .op (.mv (.tmp 0)), none⟩,
    ⟨(some 8), .op (.len false (.tmp 7)), none⟩,
    ⟨(some 9), .op (.bin .sub (.tmp 6) (.tmp 8)), none⟩,
    ⟨(some 1), .op (.mv (.tmp 9)), none⟩]) (.kill [6, 7, 8, 9]))
  (.seq (.seq (.post (.reg [⟨(some 10), .op (.mv (.tmp 1)), none⟩,
    ⟨(some 11), .op (.bin .lss (.tmp 10) (.const (Value.int .i64 0))), none⟩]) (.kill [10]))
  (.cond (.tmp 11) (.ghost (.kill [0, 1, 11]) (.seq (.reg [⟨(some 4), .op (.mv (.const (Value.int .i64 (-1)))), none⟩])
  .ret))
  (.ghost (.kill [11]) .skip)))
  (.seq (.seq (.reg [⟨(some 5), .op (.mv (.const (Value.int .i64 0))), none⟩])
  (.block 0 lo_laws_szOutMoveSS_0))
  (.ghost (.kill [0, 5]) (.seq (.post (.reg [⟨(some 26), .op (.mv (.tmp 1)), none⟩,
    ⟨(some 4), .op (.mv (.tmp 26)), none⟩]) (.kill [1, 26]))
  .ret))))))
theorem cf_laws_szOutMoveSS : chkFn Try.prog i_laws_szOutMoveSS ac_laws_szOutMoveSS [.tmp 4] 27 = true := by decide +kernel
def fa_laws_szOutMoveSS : FnA := ⟨ac_laws_szOutMoveSS, [.tmp 4], 27, false, true⟩

/-- The checked code of laws szOutMoveSSS. -/
def lb_laws_szOutMoveSSS_0 : AC := (.seq (.seq (.post (.reg [⟨(some 12), .op (.mv (.tmp 5)), none⟩,
    ⟨(some 13), .op (.mv (.tmp 0)), none⟩,
    ⟨(some 14), .op (.len false (.tmp 13)), none⟩,
    ⟨(some 15), .op (.bin .lss (.tmp 12) (.tmp 14)), none⟩]) (.kill [12, 13, 14]))
  (.cond (.tmp 15) (.ghost (.kill [15]) .skip)
  (.ghost (.kill [0, 5, 15]) (.exit 0))))
  (.seq (.block 1 (.seq (.post (.reg [⟨(some 18), .op (.mv (.tmp 0)), none⟩,
    ⟨(some 19), .op (.mv (.tmp 5)), none⟩,
    ⟨(some 20), .op (.iaddrS (.tmp 18) (.tmp 19) 1), none⟩,
    ⟨(some 21), .op (.load 1 false (.tmp 20)), none⟩,
    ⟨(some 22), .op (.mv (.tmp 1)), none⟩,
    ⟨(some 23), .call (.func i_laws_szOutMoveSS) [(.tmp 21), (.tmp 22)], none⟩,
    ⟨(some 1), .op (.mv (.tmp 23)), none⟩]) (.kill [18, 19, 20, 21, 22, 23]))
  (.seq (.post (.reg [⟨(some 24), .op (.mv (.tmp 1)), none⟩,
    ⟨(some 25), .op (.bin .lss (.tmp 24) (.const (Value.int .i64 0))), none⟩]) (.kill [24]))
  (.cond (.tmp 25) (.ghost (.kill [0, 1, 5, 25]) (.seq (.reg [⟨(some 4), .op (.mv (.const (Value.int .i64 (-1)))), none⟩])
  .ret))
  (.ghost (.kill [25]) .skip)))))
  (.post (.reg [⟨(some 16), .op (.mv (.tmp 5)), none⟩,
    ⟨(some 17), .op (.bin .add (.tmp 16) (.const (Value.int .i64 1))), none⟩,
    ⟨(some 5), .op (.mv (.tmp 17)), none⟩]) (.kill [16, 17]))))
def lo_laws_szOutMoveSSS_0 : AC := (.loop lb_laws_szOutMoveSSS_0)
def ac_laws_szOutMoveSSS : AC := (.seq (.post (.reg [⟨(some 4), .op (.mv (.const (Value.int .i64 0))), none⟩]) (.kill [4]))
  (.seq (.post (.reg [⟨(some 6), .op (.mv (.tmp 1)), none⟩,
    ⟨(some 7), .op (.mv (.tmp 0)), none⟩,
    ⟨(some 8), .op (.len false (.tmp 7)), none⟩,
    ⟨(some 9), .op (.bin .sub (.tmp 6) (.tmp 8)), none⟩,
    ⟨(some 1), .op (.mv (.tmp 9)), none⟩]) (.kill [6, 7, 8, 9]))
  (.seq (.seq (.post (.reg [⟨(some 10), .op (.mv (.tmp 1)), none⟩,
    ⟨(some 11), .op (.bin .lss (.tmp 10) (.const (Value.int .i64 0))), none⟩]) (.kill [10]))
  (.cond (.tmp 11) (.ghost (.kill [0, 1, 11]) (.seq (.reg [⟨(some 4), .op (.mv (.const (Value.int .i64 (-1)))), none⟩])
  .ret))
  (.ghost (.kill [11]) .skip)))
  (.seq (.seq (.reg [⟨(some 5), .op (.mv (.const (Value.int .i64 0))), none⟩])
  (.block 0 lo_laws_szOutMoveSSS_0))
  (.ghost (.kill [0, 5]) (.seq (.post (.reg [⟨(some 26), .op (.mv (.tmp 1)), none⟩,
    ⟨(some 4), .op (.mv (.tmp 26)), none⟩]) (.kill [1, 26]))
  .ret))))))
theorem cf_laws_szOutMoveSSS : chkFn Try.prog i_laws_szOutMoveSSS ac_laws_szOutMoveSSS [.tmp 4] 27 = true := by decide +kernel
def fa_laws_szOutMoveSSS : FnA := ⟨ac_laws_szOutMoveSSS, [.tmp 4], 27, false, true⟩

/-- The checked code of laws szRewriter. -/
def ac_laws_szRewriter : AC := (.seq (.post (.reg [⟨(some 2), .op (.box true (.tmp 0)), none⟩,
    ⟨(some 4), .op (.mv (.const (Value.int .i64 0))), none⟩]) (.kill [0, 4]))
  (.seq (.post (.reg [⟨(some 5), .op (.faddr (.tmp 2) 2), none⟩,
    ⟨(some 6), .op (.load 1 false (.tmp 5)), none⟩,
    ⟨(some 7), .op (.mv (.tmp 1)), none⟩,
    ⟨(some 8), .call (.func i_laws_szOutPushSS) [(.tmp 6), (.tmp 7)], none⟩,
    ⟨(some 1), .op (.mv (.tmp 8)), none⟩]) (.kill [5, 6, 7, 8]))
  (.seq (.seq (.post (.reg [⟨(some 9), .op (.mv (.tmp 1)), none⟩,
    ⟨(some 10), .op (.bin .lss (.tmp 9) (.const (Value.int .i64 0))), none⟩]) (.kill [9]))
  (.cond (.tmp 10) (.ghost (.kill [1, 2, 10]) (.seq (.reg [⟨(some 4), .op (.mv (.const (Value.int .i64 (-1)))), none⟩])
  .ret))
  (.ghost (.kill [10]) .skip)))
  (.seq (.post (.reg [⟨(some 11), .op (.faddr (.tmp 2) 3), none⟩,
    ⟨(some 12), .op (.load 1 false (.tmp 11)), none⟩,
    ⟨(some 13), .op (.mv (.tmp 1)), none⟩,
    ⟨(some 14), .call (.func i_laws_szOutMoveSSS) [(.tmp 12), (.tmp 13)], none⟩,
    ⟨(some 1), .op (.mv (.tmp 14)), none⟩]) (.kill [11, 12, 13, 14]))
  (.seq (.seq (.post (.reg [⟨(some 15), .op (.mv (.tmp 1)), none⟩,
    ⟨(some 16), .op (.bin .lss (.tmp 15) (.const (Value.int .i64 0))), none⟩]) (.kill [15]))
  (.cond (.tmp 16) (.ghost (.kill [1, 2, 16]) (.seq (.reg [⟨(some 4), .op (.mv (.const (Value.int .i64 (-1)))), none⟩])
  .ret))
  (.ghost (.kill [16]) .skip)))
  (.seq (.post (.reg [⟨(some 17), .op (.faddr (.tmp 2) 4), none⟩,
    ⟨(some 18), .op (.load 1 false (.tmp 17)), none⟩,
    ⟨(some 19), .op (.mv (.tmp 1)), none⟩,
    ⟨(some 20), .call (.func i_laws_szOutMoveSS) [(.tmp 18), (.tmp 19)], none⟩,
    ⟨(some 1), .op (.mv (.tmp 20)), none⟩]) (.kill [2, 17, 18, 19, 20]))
  (.seq (.seq (.post (.reg [⟨(some 21), .op (.mv (.tmp 1)), none⟩,
    ⟨(some 22), .op (.bin .lss (.tmp 21) (.const (Value.int .i64 0))), none⟩]) (.kill [21]))
  (.cond (.tmp 22) (.ghost (.kill [1, 22]) (.seq (.reg [⟨(some 4), .op (.mv (.const (Value.int .i64 (-1)))), none⟩])
  .ret))
  (.ghost (.kill [22]) .skip)))
  (.seq (.post (.reg [⟨(some 23), .op (.mv (.tmp 1)), none⟩,
    ⟨(some 4), .op (.mv (.tmp 23)), none⟩]) (.kill [1, 23]))
  .ret))))))))
theorem cf_laws_szRewriter : chkFn Try.prog i_laws_szRewriter ac_laws_szRewriter [.tmp 4] 24 = true := by decide +kernel
def fa_laws_szRewriter : FnA := ⟨ac_laws_szRewriter, [.tmp 4], 24, false, true⟩

/-- The checked code of spec l06SameMoves. -/
def lb_spec_l06SameMoves_0 : AC := (.seq (.seq (.post (.reg [⟨(some 11), .op (.mv (.tmp 5)), none⟩,
    ⟨(some 12), .op (.mv (.tmp 0)), none⟩,
    ⟨(some 13), .op (.len false (.tmp 12)), none⟩,
    ⟨(some 14), .op (.bin .lss (.tmp 11) (.tmp 13)), none⟩]) (.kill [11, 12, 13]))
  (.cond (.tmp 14) (.ghost (.kill [14]) .skip)
  (.ghost (.kill [0, 1, 5, 14]) (.exit 0))))
  (.seq (.block 1 (.seq (.post (.draw [⟨0, ⟨(some 17), .op (.mv (.tmp 0)), none⟩, []⟩,
    ⟨1, ⟨(some 18), .op (.mv (.tmp 5)), none⟩, []⟩,
    ⟨2, ⟨(some 19), .op (.iaddrS (.tmp 17) (.tmp 18) 2), none⟩, []⟩,
    ⟨3, ⟨(some 20), .op (.load 2 true (.tmp 19)), none⟩, []⟩,
    ⟨4, ⟨(some 21), .op (.mv (.tmp 1)), none⟩, []⟩,
    ⟨5, ⟨(some 22), .op (.mv (.tmp 5)), none⟩, []⟩,
    ⟨6, ⟨(some 23), .op (.iaddrS (.tmp 21) (.tmp 22) 2), none⟩, []⟩,
    ⟨7, ⟨(some 24), .op (.load 2 true (.tmp 23)), none⟩, []⟩,
    ⟨8, ⟨(some 25), .op (.eqst true [(.i .i64), .s] (.tmp 20) (.tmp 24)), none⟩, []⟩]
    [0, 0, 3, 7, 0, 0, 48, 112, 255]) (.kill [17, 18, 19, 20, 21, 22, 23, 24]))
  (.cond (.tmp 25) (.ghost (.kill [0, 1, 5, 25]) (.seq (.reg [⟨(some 4), .op (.mv (.const (Value.bool false))), none⟩])
  .ret))
  (.ghost (.kill [25]) .skip))))
  (.post (.reg [⟨(some 15), .op (.mv (.tmp 5)), none⟩,
    ⟨(some 16), .op (.bin .add (.tmp 15) (.const (Value.int .i64 1))), none⟩,
    ⟨(some 5), .op (.mv (.tmp 16)), none⟩]) (.kill [15, 16]))))
def lo_spec_l06SameMoves_0 : AC := (.loop lb_spec_l06SameMoves_0)
def ac_spec_l06SameMoves : AC := (.seq (.post (.reg [⟨(some 4), .op (.mv (.const (Value.bool false))), none⟩]) (.kill [4]))
  (.seq (.seq (.post (.reg [⟨(some 6), .op (.mv (.tmp 0)), none⟩,
    ⟨(some 7), .op (.len false (.tmp 6)), none⟩,
    ⟨(some 8), .op (.mv (.tmp 1)), none⟩,
    ⟨(some 9), .op (.len false (.tmp 8)), none⟩,
    ⟨(some 10), .op (.bin .neq (.tmp 7) (.tmp 9)), none⟩]) (.kill [6, 7, 8, 9]))
  (.cond (.tmp 10) (.ghost (.kill [0, 1, 10]) (.seq (.reg [⟨(some 4), .op (.mv (.const (Value.bool false))), none⟩])
  .ret))
  (.ghost (.kill [10]) .skip)))
  (.seq (.seq (.reg [⟨(some 5), .op (.mv (.const (Value.int .i64 0))), none⟩])
  (.block 0 lo_spec_l06SameMoves_0))
  (.ghost (.kill [0, 1, 5]) (.seq (.reg [⟨(some 4), .op (.mv (.const (Value.bool true))), none⟩])
  .ret)))))
theorem cf_spec_l06SameMoves : chkFn Try.prog i_spec_l06SameMoves ac_spec_l06SameMoves [.tmp 4] 26 = true := by decide +kernel
def fa_spec_l06SameMoves : FnA := ⟨ac_spec_l06SameMoves, [.tmp 4], 26, false, true⟩

/-- The checked code of spec SameRewriter. -/
def lb_spec_SameRewriter_0 : AC := (.seq (.seq (.post (.reg [⟨(some 69), .op (.mv (.tmp 6)), none⟩,
    ⟨(some 70), .op (.faddr (.tmp 2) 2), none⟩,
    ⟨(some 71), .op (.load 1 false (.tmp 70)), none⟩,
    ⟨(some 72), .op (.mv (.tmp 5)), none⟩,
    ⟨(some 73), .op (.iaddrS (.tmp 71) (.tmp 72) 1), none⟩,
    ⟨(some 74), .op (.load 1 false (.tmp 73)), none⟩,
    ⟨(some 75), .op (.len false (.tmp 74)), none⟩,
    ⟨(some 76), .op (.bin .lss (.tmp 69) (.tmp 75)), none⟩]) (.kill [69, 70, 71, 72, 73, 74, 75]))
  (.cond (.tmp 76) (.ghost (.kill [76]) .skip)
  (.ghost (.kill [6, 76]) (.exit 2))))
  (.seq (.block 3 (.seq (.post (.draw [⟨0, ⟨(some 79), .op (.faddr (.tmp 2) 2), none⟩, []⟩,
    ⟨1, ⟨(some 80), .op (.load 1 false (.tmp 79)), none⟩, []⟩,
    ⟨2, ⟨(some 81), .op (.mv (.tmp 5)), none⟩, []⟩,
    ⟨3, ⟨(some 82), .op (.iaddrS (.tmp 80) (.tmp 81) 1), none⟩, []⟩,
    ⟨4, ⟨(some 83), .op (.load 1 false (.tmp 82)), none⟩, []⟩,
    ⟨5, ⟨(some 84), .op (.mv (.tmp 6)), none⟩, []⟩,
    ⟨6, ⟨(some 85), .op (.iaddrS (.tmp 83) (.tmp 84) 3), none⟩, []⟩,
    ⟨7, ⟨(some 86), .op (.load 3 true (.tmp 85)), none⟩, []⟩,
    ⟨8, ⟨(some 87), .op (.faddr (.tmp 3) 2), none⟩, []⟩,
    ⟨9, ⟨(some 88), .op (.load 1 false (.tmp 87)), none⟩, []⟩,
    ⟨10, ⟨(some 89), .op (.mv (.tmp 5)), none⟩, []⟩,
    ⟨11, ⟨(some 90), .op (.iaddrS (.tmp 88) (.tmp 89) 1), none⟩, []⟩,
    ⟨12, ⟨(some 91), .op (.load 1 false (.tmp 90)), none⟩, []⟩,
    ⟨13, ⟨(some 92), .op (.mv (.tmp 6)), none⟩, []⟩,
    ⟨14, ⟨(some 93), .op (.iaddrS (.tmp 91) (.tmp 92) 3), none⟩, []⟩,
    ⟨15, ⟨(some 94), .op (.load 3 true (.tmp 93)), none⟩, []⟩,
    ⟨16, ⟨(some 95), .op (.eqst true [(.i .i64), (.i .i64), .s] (.tmp 86) (.tmp 94)), none⟩, []⟩]
    [0, 1, 0, 7, 15, 0, 63, 127, 0, 256, 0, 1792, 3840, 0, 16128, 32512, 65535]) (.kill [79, 80, 81, 82, 83, 84, 85, 86, 87, 88, 89, 90, 91, 92, 93, 94]))
  (.cond (.tmp 95) (.ghost (.kill [2, 3, 5, 6, 95]) (.seq (.reg [⟨(some 4), .op (.mv (.const (Value.bool false))), none⟩])
  .ret))
  (.ghost (.kill [95]) .skip))))
  (.post (.reg [⟨(some 77), .op (.mv (.tmp 6)), none⟩,
    ⟨(some 78), .op (.bin .add (.tmp 77) (.const (Value.int .i64 1))), none⟩,
    ⟨(some 6), .op (.mv (.tmp 78)), none⟩]) (.kill [77, 78]))))
def lo_spec_SameRewriter_0 : AC := (.loop lb_spec_SameRewriter_0)
def lb_spec_SameRewriter_1 : AC := (.seq (.seq (.post (.reg [⟨(some 49), .op (.mv (.tmp 5)), none⟩,
    ⟨(some 50), .op (.faddr (.tmp 2) 2), none⟩,
    ⟨(some 51), .op (.load 1 false (.tmp 50)), none⟩,
    ⟨(some 52), .op (.len false (.tmp 51)), none⟩,
    ⟨(some 53), .op (.bin .lss (.tmp 49) (.tmp 52)), none⟩]) (.kill [49, 50, 51, 52]))
  (.cond (.tmp 53) (.ghost (.kill [53]) .skip)
  (.ghost (.kill [5, 53]) (.exit 0))))
  (.seq (.block 1 (.seq (.seq (.post (.draw [⟨0, ⟨(some 56), .op (.faddr (.tmp 2) 2), none⟩, []⟩,
    ⟨1, ⟨(some 57), .op (.load 1 false (.tmp 56)), none⟩, []⟩,
    ⟨2, ⟨(some 58), .op (.mv (.tmp 5)), none⟩, []⟩,
    ⟨3, ⟨(some 59), .op (.iaddrS (.tmp 57) (.tmp 58) 1), none⟩, []⟩,
    ⟨4, ⟨(some 60), .op (.load 1 false (.tmp 59)), none⟩, []⟩,
    ⟨5, ⟨(some 61), .op (.len false (.tmp 60)), none⟩, []⟩,
    ⟨6, ⟨(some 62), .op (.faddr (.tmp 3) 2), none⟩, []⟩,
    ⟨7, ⟨(some 63), .op (.load 1 false (.tmp 62)), none⟩, []⟩,
    ⟨8, ⟨(some 64), .op (.mv (.tmp 5)), none⟩, []⟩,
    ⟨9, ⟨(some 65), .op (.iaddrS (.tmp 63) (.tmp 64) 1), none⟩, []⟩,
    ⟨10, ⟨(some 66), .op (.load 1 false (.tmp 65)), none⟩, []⟩,
    ⟨11, ⟨(some 67), .op (.len false (.tmp 66)), none⟩, []⟩,
    ⟨12, ⟨(some 68), .op (.bin .neq (.tmp 61) (.tmp 67)), none⟩, []⟩]
    [0, 1, 0, 7, 15, 31, 0, 64, 0, 448, 960, 1984, 4095]) (.kill [56, 57, 58, 59, 60, 61, 62, 63, 64, 65, 66, 67]))
  (.cond (.tmp 68) (.ghost (.kill [2, 3, 5, 68]) (.seq (.reg [⟨(some 4), .op (.mv (.const (Value.bool false))), none⟩])
  .ret))
  (.ghost (.kill [68]) .skip)))
  (.seq (.reg [⟨(some 6), .op (.mv (.const (Value.int .i64 0))), none⟩])
  (.block 2 lo_spec_SameRewriter_0))))
  (.ghost (.kill [6]) (.post (.reg [⟨(some 54), .op (.mv (.tmp 5)), none⟩,
    ⟨(some 55), .op (.bin .add (.tmp 54) (.const (Value.int .i64 1))), none⟩,
    ⟨(some 5), .op (.mv (.tmp 55)), none⟩]) (.kill [54, 55])))))
def lo_spec_SameRewriter_1 : AC := (.loop lb_spec_SameRewriter_1)
def lb_spec_SameRewriter_2 : AC := (.seq (.seq (.post (.reg [⟨(some 116), .op (.mv (.tmp 8)), none⟩,
    ⟨(some 117), .op (.faddr (.tmp 2) 3), none⟩,
    ⟨(some 118), .op (.load 1 false (.tmp 117)), none⟩,
    ⟨(some 119), .op (.mv (.tmp 7)), none⟩,
    ⟨(some 120), .op (.iaddrS (.tmp 118) (.tmp 119) 1), none⟩,
    ⟨(some 121), .op (.load 1 false (.tmp 120)), none⟩,
    ⟨(some 122), .op (.len false (.tmp 121)), none⟩,
    ⟨(some 123), .op (.bin .lss (.tmp 116) (.tmp 122)), none⟩]) (.kill [116, 117, 118, 119, 120, 121, 122]))
  (.cond (.tmp 123) (.ghost (.kill [123]) .skip)
  (.ghost (.kill [8, 123]) (.exit 6))))
  (.seq (.block 7 (.seq (.post (.draw [⟨0, ⟨(some 126), .op (.faddr (.tmp 2) 3), none⟩, []⟩,
    ⟨1, ⟨(some 127), .op (.load 1 false (.tmp 126)), none⟩, []⟩,
    ⟨2, ⟨(some 128), .op (.mv (.tmp 7)), none⟩, []⟩,
    ⟨3, ⟨(some 129), .op (.iaddrS (.tmp 127) (.tmp 128) 1), none⟩, []⟩,
    ⟨4, ⟨(some 130), .op (.load 1 false (.tmp 129)), none⟩, []⟩,
    ⟨5, ⟨(some 131), .op (.mv (.tmp 8)), none⟩, []⟩,
    ⟨6, ⟨(some 132), .op (.iaddrS (.tmp 130) (.tmp 131) 1), none⟩, []⟩,
    ⟨7, ⟨(some 133), .op (.load 1 false (.tmp 132)), none⟩, []⟩,
    ⟨8, ⟨(some 134), .op (.faddr (.tmp 3) 3), none⟩, []⟩,
    ⟨9, ⟨(some 135), .op (.load 1 false (.tmp 134)), none⟩, []⟩,
    ⟨10, ⟨(some 136), .op (.mv (.tmp 7)), none⟩, []⟩,
    ⟨11, ⟨(some 137), .op (.iaddrS (.tmp 135) (.tmp 136) 1), none⟩, []⟩,
    ⟨12, ⟨(some 138), .op (.load 1 false (.tmp 137)), none⟩, []⟩,
    ⟨13, ⟨(some 139), .op (.mv (.tmp 8)), none⟩, []⟩,
    ⟨14, ⟨(some 140), .op (.iaddrS (.tmp 138) (.tmp 139) 1), none⟩, []⟩,
    ⟨15, ⟨(some 141), .op (.load 1 false (.tmp 140)), none⟩, []⟩,
    ⟨16, ⟨(some 142), .call (.func i_spec_l06SameMoves) [(.tmp 133), (.tmp 141)], none⟩, []⟩,
    ⟨17, ⟨(some 143), .op (.un .not (.tmp 142)), none⟩, []⟩]
    [0, 1, 0, 7, 15, 0, 63, 127, 0, 256, 0, 1792, 3840, 0, 16128, 32512, 65535, 131071]) (.kill [126, 127, 128, 129, 130, 131, 132, 133, 134, 135, 136, 137, 138, 139, 140, 141, 142]))
  (.cond (.tmp 143) (.ghost (.kill [2, 3, 7, 8, 143]) (.seq (.reg [⟨(some 4), .op (.mv (.const (Value.bool false))), none⟩])
  .ret))
  (.ghost (.kill [143]) .skip))))
  (.post (.reg [⟨(some 124), .op (.mv (.tmp 8)), none⟩,
    ⟨(some 125), .op (.bin .add (.tmp 124) (.const (Value.int .i64 1))), none⟩,
    ⟨(some 8), .op (.mv (.tmp 125)), none⟩]) (.kill [124, 125]))))
def lo_spec_SameRewriter_2 : AC := (.loop lb_spec_SameRewriter_2)
def lb_spec_SameRewriter_3 : AC := (.seq (.seq (.post (.reg [⟨(some 96), .op (.mv (.tmp 7)), none⟩,
    ⟨(some 97), .op (.faddr (.tmp 2) 3), none⟩,
    ⟨(some 98), .op (.load 1 false (.tmp 97)), none⟩,
    ⟨(some 99), .op (.len false (.tmp 98)), none⟩,
    ⟨(some 100), .op (.bin .lss (.tmp 96) (.tmp 99)), none⟩]) (.kill [96, 97, 98, 99]))
  (.cond (.tmp 100) (.ghost (.kill [100]) .skip)
  (.ghost (.kill [7, 100]) (.exit 4))))
  (.seq (.block 5 (.seq (.seq (.post (.draw [⟨0, ⟨(some 103), .op (.faddr (.tmp 2) 3), none⟩, []⟩,
    ⟨1, ⟨(some 104), .op (.load 1 false (.tmp 103)), none⟩, []⟩,
    ⟨2, ⟨(some 105), .op (.mv (.tmp 7)), none⟩, []⟩,
    ⟨3, ⟨(some 106), .op (.iaddrS (.tmp 104) (.tmp 105) 1), none⟩, []⟩,
    ⟨4, ⟨(some 107), .op (.load 1 false (.tmp 106)), none⟩, []⟩,
    ⟨5, ⟨(some 108), .op (.len false (.tmp 107)), none⟩, []⟩,
    ⟨6, ⟨(some 109), .op (.faddr (.tmp 3) 3), none⟩, []⟩,
    ⟨7, ⟨(some 110), .op (.load 1 false (.tmp 109)), none⟩, []⟩,
    ⟨8, ⟨(some 111), .op (.mv (.tmp 7)), none⟩, []⟩,
    ⟨9, ⟨(some 112), .op (.iaddrS (.tmp 110) (.tmp 111) 1), none⟩, []⟩,
    ⟨10, ⟨(some 113), .op (.load 1 false (.tmp 112)), none⟩, []⟩,
    ⟨11, ⟨(some 114), .op (.len false (.tmp 113)), none⟩, []⟩,
    ⟨12, ⟨(some 115), .op (.bin .neq (.tmp 108) (.tmp 114)), none⟩, []⟩]
    [0, 1, 0, 7, 15, 31, 0, 64, 0, 448, 960, 1984, 4095]) (.kill [103, 104, 105, 106, 107, 108, 109, 110, 111, 112, 113, 114]))
  (.cond (.tmp 115) (.ghost (.kill [2, 3, 7, 115]) (.seq (.reg [⟨(some 4), .op (.mv (.const (Value.bool false))), none⟩])
  .ret))
  (.ghost (.kill [115]) .skip)))
  (.seq (.reg [⟨(some 8), .op (.mv (.const (Value.int .i64 0))), none⟩])
  (.block 6 lo_spec_SameRewriter_2))))
  (.ghost (.kill [8]) (.post (.reg [⟨(some 101), .op (.mv (.tmp 7)), none⟩,
    ⟨(some 102), .op (.bin .add (.tmp 101) (.const (Value.int .i64 1))), none⟩,
    ⟨(some 7), .op (.mv (.tmp 102)), none⟩]) (.kill [101, 102])))))
def lo_spec_SameRewriter_3 : AC := (.loop lb_spec_SameRewriter_3)
def lb_spec_SameRewriter_4 : AC := (.seq (.seq (.post (.reg [⟨(some 144), .op (.mv (.tmp 9)), none⟩,
    ⟨(some 145), .op (.faddr (.tmp 2) 4), none⟩,
    ⟨(some 146), .op (.load 1 false (.tmp 145)), none⟩,
    ⟨(some 147), .op (.len false (.tmp 146)), none⟩,
    ⟨(some 148), .op (.bin .lss (.tmp 144) (.tmp 147)), none⟩]) (.kill [144, 145, 146, 147]))
  (.cond (.tmp 148) (.ghost (.kill [148]) .skip)
  (.ghost (.kill [2, 3, 9, 148]) (.exit 8))))
  (.seq (.block 9 (.seq (.post (.draw [⟨0, ⟨(some 151), .op (.faddr (.tmp 2) 4), none⟩, []⟩,
    ⟨1, ⟨(some 152), .op (.load 1 false (.tmp 151)), none⟩, []⟩,
    ⟨2, ⟨(some 153), .op (.mv (.tmp 9)), none⟩, []⟩,
    ⟨3, ⟨(some 154), .op (.iaddrS (.tmp 152) (.tmp 153) 1), none⟩, []⟩,
    ⟨4, ⟨(some 155), .op (.load 1 false (.tmp 154)), none⟩, []⟩,
    ⟨5, ⟨(some 156), .op (.faddr (.tmp 3) 4), none⟩, []⟩,
    ⟨6, ⟨(some 157), .op (.load 1 false (.tmp 156)), none⟩, []⟩,
    ⟨7, ⟨(some 158), .op (.mv (.tmp 9)), none⟩, []⟩,
    ⟨8, ⟨(some 159), .op (.iaddrS (.tmp 157) (.tmp 158) 1), none⟩, []⟩,
    ⟨9, ⟨(some 160), .op (.load 1 false (.tmp 159)), none⟩, []⟩,
    ⟨10, ⟨(some 161), .call (.func i_spec_l06SameMoves) [(.tmp 155), (.tmp 160)], none⟩, []⟩,
    ⟨11, ⟨(some 162), .op (.un .not (.tmp 161)), none⟩, []⟩]
    [0, 1, 0, 7, 15, 0, 32, 0, 224, 480, 1023, 2047]) (.kill [151, 152, 153, 154, 155, 156, 157, 158, 159, 160, 161]))
  (.cond (.tmp 162) (.ghost (.kill [2, 3, 9, 162]) (.seq (.reg [⟨(some 4), .op (.mv (.const (Value.bool false))), none⟩])
  .ret))
  (.ghost (.kill [162]) .skip))))
  (.post (.reg [⟨(some 149), .op (.mv (.tmp 9)), none⟩,
    ⟨(some 150), .op (.bin .add (.tmp 149) (.const (Value.int .i64 1))), none⟩,
    ⟨(some 9), .op (.mv (.tmp 150)), none⟩]) (.kill [149, 150]))))
def lo_spec_SameRewriter_4 : AC := (.loop lb_spec_SameRewriter_4)
def ac_spec_SameRewriter : AC := (.seq (.post (.reg [⟨(some 2), .op (.box true (.tmp 0)), none⟩,
    ⟨(some 3), .op (.box true (.tmp 1)), none⟩,
    ⟨(some 4), .op (.mv (.const (Value.bool false))), none⟩]) (.kill [0, 1, 4]))
  (.seq (.seq (.post (.reg [⟨(some 10), .op (.faddr (.tmp 2) 0), none⟩,
    ⟨(some 11), .op (.load 1 false (.tmp 10)), none⟩,
    ⟨(some 12), .op (.faddr (.tmp 3) 0), none⟩,
    ⟨(some 13), .op (.load 1 false (.tmp 12)), none⟩,
    ⟨(some 14), .op (.bin .neq (.tmp 11) (.tmp 13)), none⟩,
    ⟨(some 15), .op (.mv (.tmp 14)), none⟩,
    ⟨(some 16), .op (.faddr (.tmp 2) 1), some (15, false)⟩,
    ⟨(some 17), .op (.load 1 false (.tmp 16)), some (15, false)⟩,
    ⟨(some 18), .op (.faddr (.tmp 3) 1), some (15, false)⟩,
    ⟨(some 19), .op (.load 1 false (.tmp 18)), some (15, false)⟩,
    ⟨(some 20), .op (.bin .neq (.tmp 17) (.tmp 19)), some (15, false)⟩,
    ⟨(some 21), .op (.pick (.tmp 15) (.const (Value.bool true)) (.tmp 20)), none⟩,
    ⟨(some 22), .op (.mv (.tmp 21)), none⟩,
    ⟨(some 23), .op (.faddr (.tmp 2) 2), some (22, false)⟩,
    ⟨(some 24), .op (.load 1 false (.tmp 23)), some (22, false)⟩,
    ⟨(some 25), .op (.len false (.tmp 24)), some (22, false)⟩,
    ⟨(some 26), .op (.faddr (.tmp 3) 2), some (22, false)⟩,
    ⟨(some 27), .op (.load 1 false (.tmp 26)), some (22, false)⟩,
    ⟨(some 28), .op (.len false (.tmp 27)), some (22, false)⟩,
    ⟨(some 29), .op (.bin .neq (.tmp 25) (.tmp 28)), some (22, false)⟩,
    ⟨(some 30), .op (.pick (.tmp 22) (.const (Value.bool true)) (.tmp 29)), none⟩,
    ⟨(some 31), .op (.mv (.tmp 30)), none⟩,
    ⟨(some 32), .op (.faddr (.tmp 2) 3), some (31, false)⟩,
    ⟨(some 33), .op (.load 1 false (.tmp 32)), some (31, false)⟩,
    ⟨(some 34), .op (.len false (.tmp 33)), some (31, false)⟩,
    ⟨(some 35), .op (.faddr (.tmp 3) 3), some (31, false)⟩,
    ⟨(some 36), .op (.load 1 false (.tmp 35)), some (31, false)⟩,
    ⟨(some 37), .op (.len false (.tmp 36)), some (31, false)⟩,
    ⟨(some 38), .op (.bin .neq (.tmp 34) (.tmp 37)), some (31, false)⟩,
    ⟨(some 39), .op (.pick (.tmp 31) (.const (Value.bool true)) (.tmp 38)), none⟩,
    ⟨(some 40), .op (.mv (.tmp 39)), none⟩,
    ⟨(some 41), .op (.faddr (.tmp 2) 4), some (40, false)⟩,
    ⟨(some 42), .op (.load 1 false (.tmp 41)), some (40, false)⟩,
    ⟨(some 43), .op (.len false (.tmp 42)), some (40, false)⟩,
    ⟨(some 44), .op (.faddr (.tmp 3) 4), some (40, false)⟩,
    ⟨(some 45), .op (.load 1 false (.tmp 44)), some (40, false)⟩,
    ⟨(some 46), .op (.len false (.tmp 45)), some (40, false)⟩,
    ⟨(some 47), .op (.bin .neq (.tmp 43) (.tmp 46)), some (40, false)⟩,
    ⟨(some 48), .op (.pick (.tmp 40) (.const (Value.bool true)) (.tmp 47)), none⟩]) (.kill [10, 11, 12, 13, 14, 15, 16, 17, 18, 19, 20, 21, 22, 23, 24, 25, 26, 27, 28, 29, 30, 31, 32, 33, 34, 35, 36, 37, 38, 39, 40, 41, 42, 43, 44, 45, 46, 47]))
  (.cond (.tmp 48) (.ghost (.kill [2, 3, 48]) (.seq (.reg [⟨(some 4), .op (.mv (.const (Value.bool false))), none⟩])
  .ret))
  (.ghost (.kill [48]) .skip)))
  (.seq (.seq (.reg [⟨(some 5), .op (.mv (.const (Value.int .i64 0))), none⟩])
  (.block 0 lo_spec_SameRewriter_1))
  (.ghost (.kill [5]) (.seq (.seq (.reg [⟨(some 7), .op (.mv (.const (Value.int .i64 0))), none⟩])
  (.block 4 lo_spec_SameRewriter_3))
  (.ghost (.kill [7]) (.seq (.seq (.reg [⟨(some 9), .op (.mv (.const (Value.int .i64 0))), none⟩])
  (.block 8 lo_spec_SameRewriter_4))
  (.ghost (.kill [2, 3, 9]) (.seq (.reg [⟨(some 4), .op (.mv (.const (Value.bool true))), none⟩])
  .ret)))))))))
theorem cf_spec_SameRewriter : chkFn Try.prog i_spec_SameRewriter ac_spec_SameRewriter [.tmp 4] 163 = true := by decide +kernel
def fa_spec_SameRewriter : FnA := ⟨ac_spec_SameRewriter, [.tmp 4], 163, false, true⟩

/-- The checked code of laws toOutPush. -/
def ac_laws_toOutPush : AC := (.seq (.post (.reg [⟨(some 1), .op (.box true (.tmp 0)), none⟩,
    ⟨(some 2), .op (.alloc (Value.agg #[Value.int .i64 0, Value.int .i64 0, Value.string ⟨#[]⟩])), none⟩]) (.kill [0]))
  (.seq (.reg [⟨(some 3), .op (.alloc (Value.agg #[Value.int .i64 0, Value.int .i64 0, Value.string ⟨#[]⟩])), none⟩])
  (.seq (.post (.reg [⟨(some 4), .op (.faddr (.tmp 1) 0), none⟩,
    ⟨(some 5), .op (.load 1 false (.tmp 4)), none⟩,
    ⟨(some 6), .op (.faddr (.tmp 3) 0), none⟩,
    ⟨none, .op (.store 1 (.tmp 6) (.tmp 5)), none⟩]) (.kill [4, 5, 6]))
  (.seq (.post (.reg [⟨(some 7), .op (.faddr (.tmp 1) 1), none⟩,
    ⟨(some 8), .op (.load 1 false (.tmp 7)), none⟩,
    ⟨(some 9), .op (.faddr (.tmp 3) 1), none⟩,
    ⟨none, .op (.store 1 (.tmp 9) (.tmp 8)), none⟩]) (.kill [7, 8, 9]))
  (.seq (.post (.reg [⟨(some 10), .op (.faddr (.tmp 1) 2), none⟩,
    ⟨(some 11), .op (.load 1 false (.tmp 10)), none⟩,
    ⟨(some 12), .op (.faddr (.tmp 3) 2), none⟩,
    ⟨none, .op (.store 1 (.tmp 12) (.tmp 11)), none⟩]) (.kill [1, 10, 11, 12]))
  (.seq (.post (.reg [⟨(some 13), .op (.load 3 true (.tmp 3)), none⟩,
    ⟨none, .op (.store 3 (.tmp 2) (.tmp 13)), none⟩]) (.kill [3, 13]))
  .ret))))))
theorem cf_laws_toOutPush : chkFn Try.prog i_laws_toOutPush ac_laws_toOutPush [.cell 2 3 true] 14 = true := by decide +kernel
def fa_laws_toOutPush : FnA := ⟨ac_laws_toOutPush, [.cell 2 3 true], 14, false, true⟩

/-- The checked code of laws toOutPushS. -/
def lb_laws_toOutPushS_0 : AC := (.post (.seq (.seq (.post (.reg [⟨(some 8), .op (.mv (.tmp 4)), none⟩,
    ⟨(some 9), .op (.mv (.tmp 0)), none⟩,
    ⟨(some 10), .op (.len false (.tmp 9)), none⟩,
    ⟨(some 11), .op (.bin .lss (.tmp 8) (.tmp 10)), none⟩]) (.kill [8, 9, 10]))
  (.cond (.tmp 11) (.ghost (.kill [11]) .skip)
  (.ghost (.kill [0, 4, 11]) (.exit 0))))
  (.seq (.block 1 (.post (.reg [⟨(some 14), .op (.mv (.tmp 3)), none⟩,
    ⟨(some 15), .op (.mv (.tmp 4)), none⟩,
    ⟨(some 16), .op (.mv (.tmp 0)), none⟩,
    ⟨(some 17), .op (.mv (.tmp 4)), none⟩,
    ⟨(some 18), .op (.iaddrS (.tmp 16) (.tmp 17) 3), none⟩,
    ⟨(some 19), .op (.load 3 true (.tmp 18)), none⟩,
    ⟨(some 20), .call (.func i_laws_toOutPush) [(.tmp 19)], none⟩,
    ⟨(some 21), .op (.iaddrS (.tmp 14) (.tmp 15) 3), none⟩,
    ⟨none, .op (.store 3 (.tmp 21) (.tmp 20)), none⟩]) (.kill [14, 15, 16, 17, 18, 19, 20, 21])))
  (.post (.reg [⟨(some 12), .op (.mv (.tmp 4)), none⟩,
    ⟨(some 13), .op (.bin .add (.tmp 12) (.const (Value.int .i64 1))), none⟩,
    ⟨(some 4), .op (.mv (.tmp 13)), none⟩]) (.kill [12, 13])))) .nv)
def lo_laws_toOutPushS_0 : AC := (.loop lb_laws_toOutPushS_0)
def ac_laws_toOutPushS : AC := (.seq (.post (.reg [⟨(some 2), .op (.mv (.const (Value.slice none 0 0))), none⟩]) (.kill [2]))
  (.seq (.post (.reg [⟨(some 5), .op (.mv (.tmp 0)), none⟩,
    ⟨(some 6), .op (.len false (.tmp 5)), none⟩,
    ⟨(some 7), .op (.make (.tmp 6) (.tmp 6) 3 32 (Value.agg #[Value.int .i64 0, Value.int .i64 0, Value.string ⟨#[]⟩])), none⟩,
    ⟨(some 3), .op (.mv (.tmp 7)), none⟩]) (.kill [5, 6, 7]))
  (.seq (.seq (.reg [⟨(some 4), .op (.mv (.const (Value.int .i64 0))), none⟩])
  (.post (.block 0 (.ghost .nv lo_laws_toOutPushS_0)) .nv))
  (.ghost (.kill [0, 4]) (.seq (.post (.reg [⟨(some 22), .op (.mv (.tmp 3)), none⟩,
    ⟨(some 2), .op (.mv (.tmp 22)), none⟩]) (.kill [3, 22]))
  .ret)))))
theorem cf_laws_toOutPushS : chkFn Try.prog i_laws_toOutPushS ac_laws_toOutPushS [.tmp 2] 23 = true := by decide +kernel
def fa_laws_toOutPushS : FnA := ⟨ac_laws_toOutPushS, [.tmp 2], 23, false, true⟩

/-- The checked code of laws toOutPushSS. -/
def lb_laws_toOutPushSS_0 : AC := (.post (.seq (.seq (.post (.reg [⟨(some 8), .op (.mv (.tmp 4)), none⟩,
    ⟨(some 9), .op (.mv (.tmp 0)), none⟩,
    ⟨(some 10), .op (.len false (.tmp 9)), none⟩,
    ⟨(some 11), .op (.bin .lss (.tmp 8) (.tmp 10)), none⟩]) (.kill [8, 9, 10]))
  (.cond (.tmp 11) (.ghost (.kill [11]) .skip)
  (.ghost (.kill [0, 4, 11]) (.exit 0))))
  (.seq (.block 1 (.post (.reg [⟨(some 14), .op (.mv (.tmp 3)), none⟩,
    ⟨(some 15), .op (.mv (.tmp 4)), none⟩,
    ⟨(some 16), .op (.mv (.tmp 0)), none⟩,
    ⟨(some 17), .op (.mv (.tmp 4)), none⟩,
    ⟨(some 18), .op (.iaddrS (.tmp 16) (.tmp 17) 1), none⟩,
    ⟨(some 19), .op (.load 1 false (.tmp 18)), none⟩,
    ⟨(some 20), .call (.func i_laws_toOutPushS) [(.tmp 19)], none⟩,
    ⟨(some 21), .op (.iaddrS (.tmp 14) (.tmp 15) 1), none⟩,
    ⟨none, .op (.store 1 (.tmp 21) (.tmp 20)), none⟩]) (.kill [14, 15, 16, 17, 18, 19, 20, 21])))
  (.post (.reg [⟨(some 12), .op (.mv (.tmp 4)), none⟩,
    ⟨(some 13), .op (.bin .add (.tmp 12) (.const (Value.int .i64 1))), none⟩,
    ⟨(some 4), .op (.mv (.tmp 13)), none⟩]) (.kill [12, 13])))) .nv)
def lo_laws_toOutPushSS_0 : AC := (.loop lb_laws_toOutPushSS_0)
def ac_laws_toOutPushSS : AC := (.seq (.post (.reg [⟨(some 2), .op (.mv (.const (Value.slice none 0 0))), none⟩]) (.kill [2]))
  (.seq (.post (.reg [⟨(some 5), .op (.mv (.tmp 0)), none⟩,
    ⟨(some 6), .op (.len false (.tmp 5)), none⟩,
    ⟨(some 7), .op (.make (.tmp 6) (.tmp 6) 1 24 (Value.slice none 0 0)), none⟩,
    ⟨(some 3), .op (.mv (.tmp 7)), none⟩]) (.kill [5, 6, 7]))
  (.seq (.seq (.reg [⟨(some 4), .op (.mv (.const (Value.int .i64 0))), none⟩])
  (.post (.block 0 (.ghost .nv lo_laws_toOutPushSS_0)) .nv))
  (.ghost (.kill [0, 4]) (.seq (.post (.reg [⟨(some 22), .op (.mv (.tmp 3)), none⟩,
    ⟨(some 2), .op (.mv (.tmp 22)), none⟩]) (.kill [3, 22]))
  .ret)))))
theorem cf_laws_toOutPushSS : chkFn Try.prog i_laws_toOutPushSS ac_laws_toOutPushSS [.tmp 2] 23 = true := by decide +kernel
def fa_laws_toOutPushSS : FnA := ⟨ac_laws_toOutPushSS, [.tmp 2], 23, false, true⟩

/-- The checked code of laws toOutMove. -/
def ac_laws_toOutMove : AC := (.seq (.post (.reg [⟨(some 1), .op (.box true (.tmp 0)), none⟩,
    ⟨(some 2), .op (.alloc (Value.agg #[Value.int .i64 0, Value.string ⟨#[]⟩])), none⟩]) (.kill [0]))
  (.seq (.reg [⟨(some 3), .op (.alloc (Value.agg #[Value.int .i64 0, Value.string ⟨#[]⟩])), none⟩])
  (.seq (.post (.reg [⟨(some 4), .op (.faddr (.tmp 1) 0), none⟩,
    ⟨(some 5), .op (.load 1 false (.tmp 4)), none⟩,
    ⟨(some 6), .op (.faddr (.tmp 3) 0), none⟩,
    ⟨none, .op (.store 1 (.tmp 6) (.tmp 5)), none⟩]) (.kill [4, 5, 6]))
  (.seq (.post (.reg [⟨(some 7), .op (.faddr (.tmp 1) 1), none⟩,
    ⟨(some 8), .op (.load 1 false (.tmp 7)), none⟩,
    ⟨(some 9), .op (.faddr (.tmp 3) 1), none⟩,
    ⟨none, .op (.store 1 (.tmp 9) (.tmp 8)), none⟩]) (.kill [1, 7, 8, 9]))
  (.seq (.post (.reg [⟨(some 10), .op (.load 2 true (.tmp 3)), none⟩,
    ⟨none, .op (.store 2 (.tmp 2) (.tmp 10)), none⟩]) (.kill [3, 10]))
  .ret)))))
theorem cf_laws_toOutMove : chkFn Try.prog i_laws_toOutMove ac_laws_toOutMove [.cell 2 2 true] 11 = true := by decide +kernel
def fa_laws_toOutMove : FnA := ⟨ac_laws_toOutMove, [.cell 2 2 true], 11, false, true⟩

/-- The checked code of laws toOutMoveS. -/
def lb_laws_toOutMoveS_0 : AC := (.post (.seq (.seq (.post (.reg [⟨(some 8), .op (.mv (.tmp 4)), none⟩,
    ⟨(some 9), .op (.mv (.tmp 0)), none⟩,
    ⟨(some 10), .op (.len false (.tmp 9)), none⟩,
    ⟨(some 11), .op (.bin .lss (.tmp 8) (.tmp 10)), none⟩]) (.kill [8, 9, 10]))
  (.cond (.tmp 11) (.ghost (.kill [11]) .skip)
  (.ghost (.kill [0, 4, 11]) (.exit 0))))
  (.seq (.block 1 (.post (.reg [⟨(some 14), .op (.mv (.tmp 3)), none⟩,
    ⟨(some 15), .op (.mv (.tmp 4)), none⟩,
    ⟨(some 16), .op (.mv (.tmp 0)), none⟩,
    ⟨(some 17), .op (.mv (.tmp 4)), none⟩,
    ⟨(some 18), .op (.iaddrS (.tmp 16) (.tmp 17) 2), none⟩,
    ⟨(some 19), .op (.load 2 true (.tmp 18)), none⟩,
    ⟨(some 20), .call (.func i_laws_toOutMove) [(.tmp 19)], none⟩,
    ⟨(some 21), .op (.iaddrS (.tmp 14) (.tmp 15) 2), none⟩,
    ⟨none, .op (.store 2 (.tmp 21) (.tmp 20)), none⟩]) (.kill [14, 15, 16, 17, 18, 19, 20, 21])))
  (.post (.reg [⟨(some 12), .op (.mv (.tmp 4)), none⟩,
    ⟨(some 13), .op (.bin .add (.tmp 12) (.const (Value.int .i64 1))), none⟩,
    ⟨(some 4), .op (.mv (.tmp 13)), none⟩]) (.kill [12, 13])))) .nv)
def lo_laws_toOutMoveS_0 : AC := (.loop lb_laws_toOutMoveS_0)
def ac_laws_toOutMoveS : AC := (.seq (.post (.reg [⟨(some 2), .op (.mv (.const (Value.slice none 0 0))), none⟩]) (.kill [2]))
  (.seq (.post (.reg [⟨(some 5), .op (.mv (.tmp 0)), none⟩,
    ⟨(some 6), .op (.len false (.tmp 5)), none⟩,
    ⟨(some 7), .op (.make (.tmp 6) (.tmp 6) 2 24 (Value.agg #[Value.int .i64 0, Value.string ⟨#[]⟩])), none⟩,
    ⟨(some 3), .op (.mv (.tmp 7)), none⟩]) (.kill [5, 6, 7]))
  (.seq (.seq (.reg [⟨(some 4), .op (.mv (.const (Value.int .i64 0))), none⟩])
  (.post (.block 0 (.ghost .nv lo_laws_toOutMoveS_0)) .nv))
  (.ghost (.kill [0, 4]) (.seq (.post (.reg [⟨(some 22), .op (.mv (.tmp 3)), none⟩,
    ⟨(some 2), .op (.mv (.tmp 22)), none⟩]) (.kill [3, 22]))
  .ret)))))
theorem cf_laws_toOutMoveS : chkFn Try.prog i_laws_toOutMoveS ac_laws_toOutMoveS [.tmp 2] 23 = true := by decide +kernel
def fa_laws_toOutMoveS : FnA := ⟨ac_laws_toOutMoveS, [.tmp 2], 23, false, true⟩

/-- The checked code of laws toOutMoveSS. -/
def lb_laws_toOutMoveSS_0 : AC := (.post (.seq (.seq (.post (.reg [⟨(some 8), .op (.mv (.tmp 4)), none⟩,
    ⟨(some 9), .op (.mv (.tmp 0)), none⟩,
    ⟨(some 10), .op (.len false (.tmp 9)), none⟩,
    ⟨(some 11), .op (.bin .lss (.tmp 8) (.tmp 10)), none⟩]) (.kill [8, 9, 10]))
  (.cond (.tmp 11) (.ghost (.kill [11]) .skip)
  (.ghost (.kill [0, 4, 11]) (.exit 0))))
  (.seq (.block 1 (.post (.reg [⟨(some 14), .op (.mv (.tmp 3)), none⟩,
    ⟨(some 15), .op (.mv (.tmp 4)), none⟩,
    ⟨(some 16), .op (.mv (.tmp 0)), none⟩,
    ⟨(some 17), .op (.mv (.tmp 4)), none⟩,
    ⟨(some 18), .op (.iaddrS (.tmp 16) (.tmp 17) 1), none⟩,
    ⟨(some 19), .op (.load 1 false (.tmp 18)), none⟩,
    ⟨(some 20), .call (.func i_laws_toOutMoveS) [(.tmp 19)], none⟩,
    ⟨(some 21), .op (.iaddrS (.tmp 14) (.tmp 15) 1), none⟩,
    ⟨none, .op (.store 1 (.tmp 21) (.tmp 20)), none⟩]) (.kill [14, 15, 16, 17, 18, 19, 20, 21])))
  (.post (.reg [⟨(some 12), .op (.mv (.tmp 4)), none⟩,
    ⟨(some 13), .op (.bin .add (.tmp 12) (.const (Value.int .i64 1))), none⟩,
    ⟨(some 4), .op (.mv (.tmp 13)), none⟩]) (.kill [12, 13])))) .nv)
def lo_laws_toOutMoveSS_0 : AC := (.loop lb_laws_toOutMoveSS_0)
def ac_laws_toOutMoveSS : AC := (.seq (.post (.reg [⟨(some 2), .op (.mv (.const (Value.slice none 0 0))), none⟩]) (.kill [2]))
  (.seq (.post (.reg [⟨(some 5), .op (.mv (.tmp 0)), none⟩,
    ⟨(some 6), .op (.len false (.tmp 5)), none⟩,
    ⟨(some 7), .op (.make (.tmp 6) (.tmp 6) 1 24 (Value.slice none 0 0)), none⟩,
    ⟨(some 3), .op (.mv (.tmp 7)), none⟩]) (.kill [5, 6, 7]))
  (.seq (.seq (.reg [⟨(some 4), .op (.mv (.const (Value.int .i64 0))), none⟩])
  (.post (.block 0 (.ghost .nv lo_laws_toOutMoveSS_0)) .nv))
  (.ghost (.kill [0, 4]) (.seq (.post (.reg [⟨(some 22), .op (.mv (.tmp 3)), none⟩,
    ⟨(some 2), .op (.mv (.tmp 22)), none⟩]) (.kill [3, 22]))
  .ret)))))
theorem cf_laws_toOutMoveSS : chkFn Try.prog i_laws_toOutMoveSS ac_laws_toOutMoveSS [.tmp 2] 23 = true := by decide +kernel
def fa_laws_toOutMoveSS : FnA := ⟨ac_laws_toOutMoveSS, [.tmp 2], 23, false, true⟩

/-- The checked code of laws toOutMoveSSS. -/
def lb_laws_toOutMoveSSS_0 : AC := (.post (.seq (.seq (.post (.reg [⟨(some 8), .op (.mv (.tmp 4)), none⟩,
    ⟨(some 9), .op (.mv (.tmp 0)), none⟩,
    ⟨(some 10), .op (.len false (.tmp 9)), none⟩,
    ⟨(some 11), .op (.bin .lss (.tmp 8) (.tmp 10)), none⟩]) (.kill [8, 9, 10]))
  (.cond (.tmp 11) (.ghost (.kill [11]) .skip)
  (.ghost (.kill [0, 4, 11]) (.exit 0))))
  (.seq (.block 1 (.post (.reg [⟨(some 14), .op (.mv (.tmp 3)), none⟩,
    ⟨(some 15), .op (.mv (.tmp 4)), none⟩,
    ⟨(some 16), .op (.mv (.tmp 0)), none⟩,
    ⟨(some 17), .op (.mv (.tmp 4)), none⟩,
    ⟨(some 18), .op (.iaddrS (.tmp 16) (.tmp 17) 1), none⟩,
    ⟨(some 19), .op (.load 1 false (.tmp 18)), none⟩,
    ⟨(some 20), .call (.func i_laws_toOutMoveSS) [(.tmp 19)], none⟩,
    ⟨(some 21), .op (.iaddrS (.tmp 14) (.tmp 15) 1), none⟩,
    ⟨none, .op (.store 1 (.tmp 21) (.tmp 20)), none⟩]) (.kill [14, 15, 16, 17, 18, 19, 20, 21])))
  (.post (.reg [⟨(some 12), .op (.mv (.tmp 4)), none⟩,
    ⟨(some 13), .op (.bin .add (.tmp 12) (.const (Value.int .i64 1))), none⟩,
    ⟨(some 4), .op (.mv (.tmp 13)), none⟩]) (.kill [12, 13])))) .nv)
def lo_laws_toOutMoveSSS_0 : AC := (.loop lb_laws_toOutMoveSSS_0)
def ac_laws_toOutMoveSSS : AC := (.seq (.post (.reg [⟨(some 2), .op (.mv (.const (Value.slice none 0 0))), none⟩]) (.kill [2]))
  (.seq (.post (.reg [⟨(some 5), .op (.mv (.tmp 0)), none⟩,
    ⟨(some 6), .op (.len false (.tmp 5)), none⟩,
    ⟨(some 7), .op (.make (.tmp 6) (.tmp 6) 1 24 (Value.slice none 0 0)), none⟩,
    ⟨(some 3), .op (.mv (.tmp 7)), none⟩]) (.kill [5, 6, 7]))
  (.seq (.seq (.reg [⟨(some 4), .op (.mv (.const (Value.int .i64 0))), none⟩])
  (.post (.block 0 (.ghost .nv lo_laws_toOutMoveSSS_0)) .nv))
  (.ghost (.kill [0, 4]) (.seq (.post (.reg [⟨(some 22), .op (.mv (.tmp 3)), none⟩,
    ⟨(some 2), .op (.mv (.tmp 22)), none⟩]) (.kill [3, 22]))
  .ret)))))
theorem cf_laws_toOutMoveSSS : chkFn Try.prog i_laws_toOutMoveSSS ac_laws_toOutMoveSSS [.tmp 2] 23 = true := by decide +kernel
def fa_laws_toOutMoveSSS : FnA := ⟨ac_laws_toOutMoveSSS, [.tmp 2], 23, false, true⟩

/-- The checked code of laws toRewriter. -/
def ac_laws_toRewriter : AC := (.seq (.post (.reg [⟨(some 1), .op (.box true (.tmp 0)), none⟩,
    ⟨(some 2), .op (.alloc (Value.agg #[Value.int .i64 0, Value.int .i64 0, Value.slice none 0 0, Value.slice none 0 0, Value.slice none 0 0])), none⟩]) (.kill [0]))
  (.seq (.reg [⟨(some 3), .op (.alloc (Value.agg #[Value.int .i64 0, Value.int .i64 0, Value.slice none 0 0, Value.slice none 0 0, Value.slice none 0 0])), none⟩])
  (.seq (.post (.reg [⟨(some 4), .op (.faddr (.tmp 1) 0), none⟩,
    ⟨(some 5), .op (.load 1 false (.tmp 4)), none⟩,
    ⟨(some 6), .op (.faddr (.tmp 3) 0), none⟩,
    ⟨none, .op (.store 1 (.tmp 6) (.tmp 5)), none⟩]) (.kill [4, 5, 6]))
  (.seq (.post (.reg [⟨(some 7), .op (.faddr (.tmp 1) 1), none⟩,
    ⟨(some 8), .op (.load 1 false (.tmp 7)), none⟩,
    ⟨(some 9), .op (.faddr (.tmp 3) 1), none⟩,
    ⟨none, .op (.store 1 (.tmp 9) (.tmp 8)), none⟩]) (.kill [7, 8, 9]))
  (.seq (.post (.reg [⟨(some 10), .op (.faddr (.tmp 1) 2), none⟩,
    ⟨(some 11), .op (.load 1 false (.tmp 10)), none⟩,
    ⟨(some 12), .call (.func i_laws_toOutPushSS) [(.tmp 11)], none⟩,
    ⟨(some 13), .op (.faddr (.tmp 3) 2), none⟩,
    ⟨none, .op (.store 1 (.tmp 13) (.tmp 12)), none⟩]) (.kill [10, 11, 12, 13]))
  (.seq (.post (.reg [⟨(some 14), .op (.faddr (.tmp 1) 3), none⟩,
    ⟨(some 15), .op (.load 1 false (.tmp 14)), none⟩,
    ⟨(some 16), .call (.func i_laws_toOutMoveSSS) [(.tmp 15)], none⟩,
    ⟨(some 17), .op (.faddr (.tmp 3) 3), none⟩,
    ⟨none, .op (.store 1 (.tmp 17) (.tmp 16)), none⟩]) (.kill [14, 15, 16, 17]))
  (.seq (.post (.reg [⟨(some 18), .op (.faddr (.tmp 1) 4), none⟩,
    ⟨(some 19), .op (.load 1 false (.tmp 18)), none⟩,
    ⟨(some 20), .call (.func i_laws_toOutMoveSS) [(.tmp 19)], none⟩,
    ⟨(some 21), .op (.faddr (.tmp 3) 4), none⟩,
    ⟨none, .op (.store 1 (.tmp 21) (.tmp 20)), none⟩]) (.kill [1, 18, 19, 20, 21]))
  (.seq (.post (.reg [⟨(some 22), .op (.load 5 true (.tmp 3)), none⟩,
    ⟨none, .op (.store 5 (.tmp 2) (.tmp 22)), none⟩]) (.kill [3, 22]))
  .ret))))))))
theorem cf_laws_toRewriter : chkFn Try.prog i_laws_toRewriter ac_laws_toRewriter [.cell 2 5 true] 23 = true := by decide +kernel
def fa_laws_toRewriter : FnA := ⟨ac_laws_toRewriter, [.cell 2 5 true], 23, false, true⟩

/-- The checked code of impl OutMove . -/
def lb_slices_EqualFunc_L_L_impl_OutMove_0 : AC := (.seq (.reg [⟨(some 18), .op (.bin .lss (.tmp 17) (.tmp 16)), none⟩])
  (.seq (.cond (.tmp 18) (.ghost (.kill [18]) .skip)
  (.ghost (.kill [1, 2, 15, 16, 17, 18]) (.exit 0)))
  (.seq (.block 1 (.seq (.post (.reg [⟨(some 19), .op (.mv (.tmp 17)), none⟩,
    ⟨(some 20), .op (.iaddrS (.tmp 15) (.tmp 17) 1), none⟩,
    ⟨(some 21), .op (.load 1 false (.tmp 20)), none⟩,
    ⟨(some 7), .op (.mv (.tmp 19)), none⟩,
    ⟨(some 8), .op (.mv (.tmp 21)), none⟩]) (.kill [19, 20, 21]))
  (.seq (.post (.reg [⟨(some 22), .op (.mv (.tmp 1)), none⟩,
    ⟨(some 23), .op (.mv (.tmp 7)), none⟩,
    ⟨(some 24), .op (.iaddrS (.tmp 22) (.tmp 23) 1), none⟩,
    ⟨(some 25), .op (.load 1 false (.tmp 24)), none⟩,
    ⟨(some 9), .op (.mv (.tmp 25)), none⟩]) (.kill [7, 22, 23, 24, 25]))
  (.seq (.post (.reg [⟨(some 26), .op (.mv (.tmp 2)), none⟩,
    ⟨(some 27), .op (.mv (.tmp 8)), none⟩,
    ⟨(some 28), .op (.mv (.tmp 9)), none⟩,
    ⟨(some 29), .call (.tmp 26) [(.tmp 27), (.tmp 28)], none⟩,
    ⟨(some 30), .op (.un .not (.tmp 29)), none⟩]) (.kill [8, 9, 26, 27, 28, 29]))
  (.cond (.tmp 30) (.ghost (.kill [1, 2, 15, 16, 17, 30]) (.seq (.reg [⟨(some 6), .op (.mv (.const (Value.bool false))), none⟩])
  .ret))
  (.ghost (.kill [30]) .skip))))))
  (.post (.reg [⟨(some 31), .op (.bin .add (.tmp 17) (.const (Value.int .i64 1))), none⟩,
    ⟨(some 17), .op (.mv (.tmp 31)), none⟩]) (.kill [31])))))
def lo_slices_EqualFunc_L_L_impl_OutMove_0 : AC := (.loop lb_slices_EqualFunc_L_L_impl_OutMove_0)
def ac_slices_EqualFunc_L_L_impl_OutMove : AC := (.seq (.post (.reg [⟨(some 6), .op (.mv (.const (Value.bool false))), none⟩]) (.kill [6]))
  (.seq (.seq (.post (.reg [⟨(some 10), .op (.mv (.tmp 0)), none⟩,
    ⟨(some 11), .op (.len false (.tmp 10)), none⟩,
    ⟨(some 12), .op (.mv (.tmp 1)), none⟩,
    ⟨(some 13), .op (.len false (.tmp 12)), none⟩,
    ⟨(some 14), .op (.bin .neq (.tmp 11) (.tmp 13)), none⟩]) (.kill [10, 11, 12, 13]))
  (.cond (.tmp 14) (.ghost (.kill [0, 1, 2, 14]) (.seq (.reg [⟨(some 6), .op (.mv (.const (Value.bool false))), none⟩])
  .ret))
  (.ghost (.kill [14]) .skip)))
  (.seq (.seq (.post (.reg [⟨(some 15), .op (.mv (.tmp 0)), none⟩,
    ⟨(some 16), .op (.len false (.tmp 15)), none⟩,
    ⟨(some 17), .op (.mv (.const (Value.int .i64 0))), none⟩]) (.kill [0]))
  (.block 0 lo_slices_EqualFunc_L_L_impl_OutMove_0))
  (.ghost (.kill [1, 2, 15, 16, 17]) (.seq (.reg [⟨(some 6), .op (.mv (.const (Value.bool true))), none⟩])
  .ret)))))
theorem cf_slices_EqualFunc_L_L_impl_OutMove : chkFn Try.prog i_slices_EqualFunc_L_L_impl_OutMove ac_slices_EqualFunc_L_L_impl_OutMove [.tmp 6] 32 = true := by decide +kernel
def fa_slices_EqualFunc_L_L_impl_OutMove : FnA := ⟨ac_slices_EqualFunc_L_L_impl_OutMove, [.tmp 6], 32, false, true⟩

/-- The checked code of impl OutMove . -/
def lb_slices_Equal_L_impl_OutMove_0 : AC := (.seq (.reg [⟨(some 14), .op (.bin .lss (.tmp 13) (.tmp 12)), none⟩])
  (.seq (.cond (.tmp 14) (.ghost (.kill [14]) .skip)
  (.ghost (.kill [0, 1, 12, 13, 14]) (.exit 0)))
  (.seq (.block 1 (.seq (.post (.reg [⟨(some 15), .op (.mv (.tmp 13)), none⟩,
    ⟨(some 5), .op (.mv (.tmp 15)), none⟩]) (.kill [15]))
  (.seq (.post (.draw [⟨0, ⟨(some 16), .op (.mv (.tmp 0)), none⟩, []⟩,
    ⟨1, ⟨(some 17), .op (.mv (.tmp 5)), none⟩, []⟩,
    ⟨2, ⟨(some 18), .op (.iaddrS (.tmp 16) (.tmp 17) 2), none⟩, []⟩,
    ⟨3, ⟨(some 19), .op (.load 2 true (.tmp 18)), none⟩, []⟩,
    ⟨4, ⟨(some 20), .op (.mv (.tmp 1)), none⟩, []⟩,
    ⟨5, ⟨(some 21), .op (.mv (.tmp 5)), none⟩, []⟩,
    ⟨6, ⟨(some 22), .op (.iaddrS (.tmp 20) (.tmp 21) 2), none⟩, []⟩,
    ⟨7, ⟨(some 23), .op (.load 2 true (.tmp 22)), none⟩, []⟩,
    ⟨8, ⟨(some 24), .op (.eqst true [(.i .i64), .s] (.tmp 19) (.tmp 23)), none⟩, []⟩]
    [0, 0, 3, 7, 0, 0, 48, 112, 255]) (.kill [5, 16, 17, 18, 19, 20, 21, 22, 23]))
  (.cond (.tmp 24) (.ghost (.kill [0, 1, 12, 13, 24]) (.seq (.reg [⟨(some 4), .op (.mv (.const (Value.bool false))), none⟩])
  .ret))
  (.ghost (.kill [24]) .skip)))))
  (.post (.reg [⟨(some 25), .op (.bin .add (.tmp 13) (.const (Value.int .i64 1))), none⟩,
    ⟨(some 13), .op (.mv (.tmp 25)), none⟩]) (.kill [25])))))
def lo_slices_Equal_L_impl_OutMove_0 : AC := (.loop lb_slices_Equal_L_impl_OutMove_0)
def ac_slices_Equal_L_impl_OutMove : AC := (.seq (.post (.reg [⟨(some 4), .op (.mv (.const (Value.bool false))), none⟩]) (.kill [4]))
  (.seq (.seq (.post (.reg [⟨(some 6), .op (.mv (.tmp 0)), none⟩,
    ⟨(some 7), .op (.len false (.tmp 6)), none⟩,
    ⟨(some 8), .op (.mv (.tmp 1)), none⟩,
    ⟨(some 9), .op (.len false (.tmp 8)), none⟩,
    ⟨(some 10), .op (.bin .neq (.tmp 7) (.tmp 9)), none⟩]) (.kill [6, 7, 8, 9]))
  (.cond (.tmp 10) (.ghost (.kill [0, 1, 10]) (.seq (.reg [⟨(some 4), .op (.mv (.const (Value.bool false))), none⟩])
  .ret))
  (.ghost (.kill [10]) .skip)))
  (.seq (.seq (.post (.reg [⟨(some 11), .op (.mv (.tmp 0)), none⟩,
    ⟨(some 12), .op (.len false (.tmp 11)), none⟩,
    ⟨(some 13), .op (.mv (.const (Value.int .i64 0))), none⟩]) (.kill [11]))
  (.block 0 lo_slices_Equal_L_impl_OutMove_0))
  (.ghost (.kill [0, 1, 12, 13]) (.seq (.reg [⟨(some 4), .op (.mv (.const (Value.bool true))), none⟩])
  .ret)))))
theorem cf_slices_Equal_L_impl_OutMove : chkFn Try.prog i_slices_Equal_L_impl_OutMove ac_slices_Equal_L_impl_OutMove [.tmp 4] 26 = true := by decide +kernel
def fa_slices_Equal_L_impl_OutMove : FnA := ⟨ac_slices_Equal_L_impl_OutMove, [.tmp 4], 26, false, true⟩

/-- The checked code of impl SameRewriter 1. -/
def ac_impl_SameRewriter_1 : AC := (.seq (.post (.reg [⟨(some 4), .op (.mv (.const (Value.bool false))), none⟩]) (.kill [4]))
  (.seq (.post (.reg [⟨(some 5), .op (.mv (.tmp 0)), none⟩,
    ⟨(some 6), .op (.mv (.tmp 1)), none⟩,
    ⟨(some 7), .call (.func i_slices_EqualFunc_L_L_impl_OutMove) [(.tmp 5), (.tmp 6), (.func i_slices_Equal_L_impl_OutMove)], none⟩,
    ⟨(some 4), .op (.mv (.tmp 7)), none⟩]) (.kill [0, 1, 5, 6, 7]))
  .ret))
theorem cf_impl_SameRewriter_1 : chkFn Try.prog i_impl_SameRewriter_1 ac_impl_SameRewriter_1 [.tmp 4] 8 = true := by decide +kernel
def fa_impl_SameRewriter_1 : FnA := ⟨ac_impl_SameRewriter_1, [.tmp 4], 8, false, true⟩

/-- The checked code of impl OutPush . -/
def lb_slices_EqualFunc_L_L_impl_OutPush_0 : AC := (.seq (.reg [⟨(some 18), .op (.bin .lss (.tmp 17) (.tmp 16)), none⟩])
  (.seq (.cond (.tmp 18) (.ghost (.kill [18]) .skip)
  (.ghost (.kill [1, 2, 15, 16, 17, 18]) (.exit 0)))
  (.seq (.block 1 (.seq (.post (.reg [⟨(some 19), .op (.mv (.tmp 17)), none⟩,
    ⟨(some 20), .op (.iaddrS (.tmp 15) (.tmp 17) 1), none⟩,
    ⟨(some 21), .op (.load 1 false (.tmp 20)), none⟩,
    ⟨(some 7), .op (.mv (.tmp 19)), none⟩,
    ⟨(some 8), .op (.mv (.tmp 21)), none⟩]) (.kill [19, 20, 21]))
  (.seq (.post (.reg [⟨(some 22), .op (.mv (.tmp 1)), none⟩,
    ⟨(some 23), .op (.mv (.tmp 7)), none⟩,
    ⟨(some 24), .op (.iaddrS (.tmp 22) (.tmp 23) 1), none⟩,
    ⟨(some 25), .op (.load 1 false (.tmp 24)), none⟩,
    ⟨(some 9), .op (.mv (.tmp 25)), none⟩]) (.kill [7, 22, 23, 24, 25]))
  (.seq (.post (.reg [⟨(some 26), .op (.mv (.tmp 2)), none⟩,
    ⟨(some 27), .op (.mv (.tmp 8)), none⟩,
    ⟨(some 28), .op (.mv (.tmp 9)), none⟩,
    ⟨(some 29), .call (.tmp 26) [(.tmp 27), (.tmp 28)], none⟩,
    ⟨(some 30), .op (.un .not (.tmp 29)), none⟩]) (.kill [8, 9, 26, 27, 28, 29]))
  (.cond (.tmp 30) (.ghost (.kill [1, 2, 15, 16, 17, 30]) (.seq (.reg [⟨(some 6), .op (.mv (.const (Value.bool false))), none⟩])
  .ret))
  (.ghost (.kill [30]) .skip))))))
  (.post (.reg [⟨(some 31), .op (.bin .add (.tmp 17) (.const (Value.int .i64 1))), none⟩,
    ⟨(some 17), .op (.mv (.tmp 31)), none⟩]) (.kill [31])))))
def lo_slices_EqualFunc_L_L_impl_OutPush_0 : AC := (.loop lb_slices_EqualFunc_L_L_impl_OutPush_0)
def ac_slices_EqualFunc_L_L_impl_OutPush : AC := (.seq (.post (.reg [⟨(some 6), .op (.mv (.const (Value.bool false))), none⟩]) (.kill [6]))
  (.seq (.seq (.post (.reg [⟨(some 10), .op (.mv (.tmp 0)), none⟩,
    ⟨(some 11), .op (.len false (.tmp 10)), none⟩,
    ⟨(some 12), .op (.mv (.tmp 1)), none⟩,
    ⟨(some 13), .op (.len false (.tmp 12)), none⟩,
    ⟨(some 14), .op (.bin .neq (.tmp 11) (.tmp 13)), none⟩]) (.kill [10, 11, 12, 13]))
  (.cond (.tmp 14) (.ghost (.kill [0, 1, 2, 14]) (.seq (.reg [⟨(some 6), .op (.mv (.const (Value.bool false))), none⟩])
  .ret))
  (.ghost (.kill [14]) .skip)))
  (.seq (.seq (.post (.reg [⟨(some 15), .op (.mv (.tmp 0)), none⟩,
    ⟨(some 16), .op (.len false (.tmp 15)), none⟩,
    ⟨(some 17), .op (.mv (.const (Value.int .i64 0))), none⟩]) (.kill [0]))
  (.block 0 lo_slices_EqualFunc_L_L_impl_OutPush_0))
  (.ghost (.kill [1, 2, 15, 16, 17]) (.seq (.reg [⟨(some 6), .op (.mv (.const (Value.bool true))), none⟩])
  .ret)))))
theorem cf_slices_EqualFunc_L_L_impl_OutPush : chkFn Try.prog i_slices_EqualFunc_L_L_impl_OutPush ac_slices_EqualFunc_L_L_impl_OutPush [.tmp 6] 32 = true := by decide +kernel
def fa_slices_EqualFunc_L_L_impl_OutPush : FnA := ⟨ac_slices_EqualFunc_L_L_impl_OutPush, [.tmp 6], 32, false, true⟩

/-- The checked code of impl OutPush . -/
def lb_slices_Equal_L_impl_OutPush_0 : AC := (.seq (.reg [⟨(some 14), .op (.bin .lss (.tmp 13) (.tmp 12)), none⟩])
  (.seq (.cond (.tmp 14) (.ghost (.kill [14]) .skip)
  (.ghost (.kill [0, 1, 12, 13, 14]) (.exit 0)))
  (.seq (.block 1 (.seq (.post (.reg [⟨(some 15), .op (.mv (.tmp 13)), none⟩,
    ⟨(some 5), .op (.mv (.tmp 15)), none⟩]) (.kill [15]))
  (.seq (.post (.draw [⟨0, ⟨(some 16), .op (.mv (.tmp 0)), none⟩, []⟩,
    ⟨1, ⟨(some 17), .op (.mv (.tmp 5)), none⟩, []⟩,
    ⟨2, ⟨(some 18), .op (.iaddrS (.tmp 16) (.tmp 17) 3), none⟩, []⟩,
    ⟨3, ⟨(some 19), .op (.load 3 true (.tmp 18)), none⟩, []⟩,
    ⟨4, ⟨(some 20), .op (.mv (.tmp 1)), none⟩, []⟩,
    ⟨5, ⟨(some 21), .op (.mv (.tmp 5)), none⟩, []⟩,
    ⟨6, ⟨(some 22), .op (.iaddrS (.tmp 20) (.tmp 21) 3), none⟩, []⟩,
    ⟨7, ⟨(some 23), .op (.load 3 true (.tmp 22)), none⟩, []⟩,
    ⟨8, ⟨(some 24), .op (.eqst true [(.i .i64), (.i .i64), .s] (.tmp 19) (.tmp 23)), none⟩, []⟩]
    [0, 0, 3, 7, 0, 0, 48, 112, 255]) (.kill [5, 16, 17, 18, 19, 20, 21, 22, 23]))
  (.cond (.tmp 24) (.ghost (.kill [0, 1, 12, 13, 24]) (.seq (.reg [⟨(some 4), .op (.mv (.const (Value.bool false))), none⟩])
  .ret))
  (.ghost (.kill [24]) .skip)))))
  (.post (.reg [⟨(some 25), .op (.bin .add (.tmp 13) (.const (Value.int .i64 1))), none⟩,
    ⟨(some 13), .op (.mv (.tmp 25)), none⟩]) (.kill [25])))))
def lo_slices_Equal_L_impl_OutPush_0 : AC := (.loop lb_slices_Equal_L_impl_OutPush_0)
def ac_slices_Equal_L_impl_OutPush : AC := (.seq (.post (.reg [⟨(some 4), .op (.mv (.const (Value.bool false))), none⟩]) (.kill [4]))
  (.seq (.seq (.post (.reg [⟨(some 6), .op (.mv (.tmp 0)), none⟩,
    ⟨(some 7), .op (.len false (.tmp 6)), none⟩,
    ⟨(some 8), .op (.mv (.tmp 1)), none⟩,
    ⟨(some 9), .op (.len false (.tmp 8)), none⟩,
    ⟨(some 10), .op (.bin .neq (.tmp 7) (.tmp 9)), none⟩]) (.kill [6, 7, 8, 9]))
  (.cond (.tmp 10) (.ghost (.kill [0, 1, 10]) (.seq (.reg [⟨(some 4), .op (.mv (.const (Value.bool false))), none⟩])
  .ret))
  (.ghost (.kill [10]) .skip)))
  (.seq (.seq (.post (.reg [⟨(some 11), .op (.mv (.tmp 0)), none⟩,
    ⟨(some 12), .op (.len false (.tmp 11)), none⟩,
    ⟨(some 13), .op (.mv (.const (Value.int .i64 0))), none⟩]) (.kill [11]))
  (.block 0 lo_slices_Equal_L_impl_OutPush_0))
  (.ghost (.kill [0, 1, 12, 13]) (.seq (.reg [⟨(some 4), .op (.mv (.const (Value.bool true))), none⟩])
  .ret)))))
theorem cf_slices_Equal_L_impl_OutPush : chkFn Try.prog i_slices_Equal_L_impl_OutPush ac_slices_Equal_L_impl_OutPush [.tmp 4] 26 = true := by decide +kernel
def fa_slices_Equal_L_impl_OutPush : FnA := ⟨ac_slices_Equal_L_impl_OutPush, [.tmp 4], 26, false, true⟩

/-- The checked code of impl OutMove . -/
def lb_slices_EqualFunc_L_L_L_impl_OutMove_0 : AC := (.seq (.reg [⟨(some 18), .op (.bin .lss (.tmp 17) (.tmp 16)), none⟩])
  (.seq (.cond (.tmp 18) (.ghost (.kill [18]) .skip)
  (.ghost (.kill [1, 2, 15, 16, 17, 18]) (.exit 0)))
  (.seq (.block 1 (.seq (.post (.reg [⟨(some 19), .op (.mv (.tmp 17)), none⟩,
    ⟨(some 20), .op (.iaddrS (.tmp 15) (.tmp 17) 1), none⟩,
    ⟨(some 21), .op (.load 1 false (.tmp 20)), none⟩,
    ⟨(some 7), .op (.mv (.tmp 19)), none⟩,
    ⟨(some 8), .op (.mv (.tmp 21)), none⟩]) (.kill [19, 20, 21]))
  (.seq (.post (.reg [⟨(some 22), .op (.mv (.tmp 1)), none⟩,
    ⟨(some 23), .op (.mv (.tmp 7)), none⟩,
    ⟨(some 24), .op (.iaddrS (.tmp 22) (.tmp 23) 1), none⟩,
    ⟨(some 25), .op (.load 1 false (.tmp 24)), none⟩,
    ⟨(some 9), .op (.mv (.tmp 25)), none⟩]) (.kill [7, 22, 23, 24, 25]))
  (.seq (.post (.reg [⟨(some 26), .op (.mv (.tmp 2)), none⟩,
    ⟨(some 27), .op (.mv (.tmp 8)), none⟩,
    ⟨(some 28), .op (.mv (.tmp 9)), none⟩,
    ⟨(some 29), .call (.tmp 26) [(.tmp 27), (.tmp 28)], none⟩,
    ⟨(some 30), .op (.un .not (.tmp 29)), none⟩]) (.kill [8, 9, 26, 27, 28, 29]))
  (.cond (.tmp 30) (.ghost (.kill [1, 2, 15, 16, 17, 30]) (.seq (.reg [⟨(some 6), .op (.mv (.const (Value.bool false))), none⟩])
  .ret))
  (.ghost (.kill [30]) .skip))))))
  (.post (.reg [⟨(some 31), .op (.bin .add (.tmp 17) (.const (Value.int .i64 1))), none⟩,
    ⟨(some 17), .op (.mv (.tmp 31)), none⟩]) (.kill [31])))))
def lo_slices_EqualFunc_L_L_L_impl_OutMove_0 : AC := (.loop lb_slices_EqualFunc_L_L_L_impl_OutMove_0)
def ac_slices_EqualFunc_L_L_L_impl_OutMove : AC := (.seq (.post (.reg [⟨(some 6), .op (.mv (.const (Value.bool false))), none⟩]) (.kill [6]))
  (.seq (.seq (.post (.reg [⟨(some 10), .op (.mv (.tmp 0)), none⟩,
    ⟨(some 11), .op (.len false (.tmp 10)), none⟩,
    ⟨(some 12), .op (.mv (.tmp 1)), none⟩,
    ⟨(some 13), .op (.len false (.tmp 12)), none⟩,
    ⟨(some 14), .op (.bin .neq (.tmp 11) (.tmp 13)), none⟩]) (.kill [10, 11, 12, 13]))
  (.cond (.tmp 14) (.ghost (.kill [0, 1, 2, 14]) (.seq (.reg [⟨(some 6), .op (.mv (.const (Value.bool false))), none⟩])
  .ret))
  (.ghost (.kill [14]) .skip)))
  (.seq (.seq (.post (.reg [⟨(some 15), .op (.mv (.tmp 0)), none⟩,
    ⟨(some 16), .op (.len false (.tmp 15)), none⟩,
    ⟨(some 17), .op (.mv (.const (Value.int .i64 0))), none⟩]) (.kill [0]))
  (.block 0 lo_slices_EqualFunc_L_L_L_impl_OutMove_0))
  (.ghost (.kill [1, 2, 15, 16, 17]) (.seq (.reg [⟨(some 6), .op (.mv (.const (Value.bool true))), none⟩])
  .ret)))))
theorem cf_slices_EqualFunc_L_L_L_impl_OutMove : chkFn Try.prog i_slices_EqualFunc_L_L_L_impl_OutMove ac_slices_EqualFunc_L_L_L_impl_OutMove [.tmp 6] 32 = true := by decide +kernel
def fa_slices_EqualFunc_L_L_L_impl_OutMove : FnA := ⟨ac_slices_EqualFunc_L_L_L_impl_OutMove, [.tmp 6], 32, false, true⟩

/-- The checked code of impl SameRewriter. -/
def ac_impl_SameRewriter : AC := (.seq (.post (.reg [⟨(some 2), .op (.box true (.tmp 0)), none⟩,
    ⟨(some 3), .op (.box true (.tmp 1)), none⟩,
    ⟨(some 4), .op (.mv (.const (Value.bool false))), none⟩]) (.kill [0, 1, 4]))
  (.seq (.reg [⟨(some 5), .op (.mv (.func i_impl_SameRewriter_1)), none⟩])
  (.seq (.post (.reg [⟨(some 6), .op (.faddr (.tmp 2) 0), none⟩,
    ⟨(some 7), .op (.load 1 false (.tmp 6)), none⟩,
    ⟨(some 8), .op (.faddr (.tmp 3) 0), none⟩,
    ⟨(some 9), .op (.load 1 false (.tmp 8)), none⟩,
    ⟨(some 10), .op (.bin .eql (.tmp 7) (.tmp 9)), none⟩,
    ⟨(some 11), .op (.mv (.tmp 10)), none⟩,
    ⟨(some 12), .op (.faddr (.tmp 2) 1), some (11, true)⟩,
    ⟨(some 13), .op (.load 1 false (.tmp 12)), some (11, true)⟩,
    ⟨(some 14), .op (.faddr (.tmp 3) 1), some (11, true)⟩,
    ⟨(some 15), .op (.load 1 false (.tmp 14)), some (11, true)⟩,
    ⟨(some 16), .op (.bin .eql (.tmp 13) (.tmp 15)), some (11, true)⟩,
    ⟨(some 17), .op (.pick (.tmp 11) (.tmp 16) (.const (Value.bool false))), none⟩,
    ⟨(some 18), .op (.mv (.tmp 17)), none⟩,
    ⟨(some 19), .op (.faddr (.tmp 2) 2), some (18, true)⟩,
    ⟨(some 20), .op (.load 1 false (.tmp 19)), some (18, true)⟩,
    ⟨(some 21), .op (.faddr (.tmp 3) 2), some (18, true)⟩,
    ⟨(some 22), .op (.load 1 false (.tmp 21)), some (18, true)⟩,
    ⟨(some 23), .call (.func i_slices_EqualFunc_L_L_impl_OutPush) [(.tmp 20), (.tmp 22), (.func i_slices_Equal_L_impl_OutPush)], some (18, true)⟩,
    ⟨(some 24), .op (.pick (.tmp 18) (.tmp 23) (.const (Value.bool false))), none⟩,
    ⟨(some 25), .op (.mv (.tmp 24)), none⟩,
    ⟨(some 26), .op (.faddr (.tmp 2) 3), some (25, true)⟩,
    ⟨(some 27), .op (.load 1 false (.tmp 26)), some (25, true)⟩,
    ⟨(some 28), .op (.faddr (.tmp 3) 3), some (25, true)⟩,
    ⟨(some 29), .op (.load 1 false (.tmp 28)), some (25, true)⟩,
    ⟨(some 30), .op (.mv (.tmp 5)), some (25, true)⟩,
    ⟨(some 31), .call (.func i_slices_EqualFunc_L_L_L_impl_OutMove) [(.tmp 27), (.tmp 29), (.tmp 30)], some (25, true)⟩,
    ⟨(some 32), .op (.pick (.tmp 25) (.tmp 31) (.const (Value.bool false))), none⟩,
    ⟨(some 33), .op (.mv (.tmp 32)), none⟩,
    ⟨(some 34), .op (.mv (.tmp 5)), some (33, true)⟩,
    ⟨(some 35), .op (.faddr (.tmp 2) 4), some (33, true)⟩,
    ⟨(some 36), .op (.load 1 false (.tmp 35)), some (33, true)⟩,
    ⟨(some 37), .op (.faddr (.tmp 3) 4), some (33, true)⟩,
    ⟨(some 38), .op (.load 1 false (.tmp 37)), some (33, true)⟩,
    ⟨(some 39), .call (.tmp 34) [(.tmp 36), (.tmp 38)], some (33, true)⟩,
    ⟨(some 40), .op (.pick (.tmp 33) (.tmp 39) (.const (Value.bool false))), none⟩,
    ⟨(some 4), .op (.mv (.tmp 40)), none⟩]) (.kill [2, 3, 5, 6, 7, 8, 9, 10, 11, 12, 13, 14, 15, 16, 17, 18, 19, 20, 21, 22, 23, 24, 25, 26, 27, 28, 29, 30, 31, 32, 33, 34, 35, 36, 37, 38, 39, 40]))
  .ret)))
theorem cf_impl_SameRewriter : chkFn Try.prog i_impl_SameRewriter ac_impl_SameRewriter [.tmp 4] 41 = true := by decide +kernel
def fa_impl_SameRewriter : FnA := ⟨ac_impl_SameRewriter, [.tmp 4], 41, false, true⟩

/-- The checked code of laws FnExactSameRewriter. -/
def ac_laws_FnExactSameRewriter : AC := (.seq (.post (.reg [⟨(some 2), .op (.box true (.tmp 0)), none⟩,
    ⟨(some 3), .op (.box true (.tmp 1)), none⟩,
    ⟨(some 4), .op (.mv (.const (Value.bool false))), none⟩]) (.kill [0, 1, 4]))
  (.seq (.reg [⟨(some 5), .op (.mv (.const (Value.int .i64 1048576))), none⟩])
  (.seq (.post (.reg [⟨(some 10), .op (.load 5 true (.tmp 2)), none⟩,
    ⟨(some 11), .op (.mv (.tmp 5)), none⟩,
    ⟨(some 12), .call (.func i_laws_szRewriter) [(.tmp 10), (.tmp 11)], none⟩,
    ⟨(some 5), .op (.mv (.tmp 12)), none⟩]) (.kill [10, 11, 12]))
  (.seq (.seq (.post (.reg [⟨(some 13), .op (.mv (.tmp 5)), none⟩,
    ⟨(some 14), .op (.bin .lss (.tmp 13) (.const (Value.int .i64 0))), none⟩]) (.kill [13]))
  (.cond (.tmp 14) (.ghost (.kill [2, 3, 5, 14]) (.seq (.reg [⟨(some 4), .op (.mv (.const (Value.bool true))), none⟩])
  .ret))
  (.ghost (.kill [14]) .skip)))
  (.seq (.post (.reg [⟨(some 15), .op (.load 5 true (.tmp 3)), none⟩,
    ⟨(some 16), .op (.mv (.tmp 5)), none⟩,
    ⟨(some 17), .call (.func i_laws_szRewriter) [(.tmp 15), (.tmp 16)], none⟩,
    ⟨(some 5), .op (.mv (.tmp 17)), none⟩]) (.kill [15, 16, 17]))
  (.seq (.seq (.post (.reg [⟨(some 18), .op (.mv (.tmp 5)), none⟩,
    ⟨(some 19), .op (.bin .lss (.tmp 18) (.const (Value.int .i64 0))), none⟩]) (.kill [5, 18]))
  (.cond (.tmp 19) (.ghost (.kill [2, 3, 19]) (.seq (.reg [⟨(some 4), .op (.mv (.const (Value.bool true))), none⟩])
  .ret))
  (.ghost (.kill [19]) .skip)))
  (.seq (.post (.draw [⟨0, ⟨(some 20), .op (.load 5 true (.tmp 2)), none⟩, []⟩,
    ⟨2, ⟨(some 22), .op (.load 5 true (.tmp 3)), none⟩, []⟩,
    ⟨1, ⟨(some 21), .call (.func i_laws_toRewriter) [(.tmp 20)], none⟩, [2]⟩,
    ⟨3, ⟨(some 23), .call (.func i_laws_toRewriter) [(.tmp 22)], none⟩, []⟩,
    ⟨4, ⟨(some 24), .call (.func i_spec_SameRewriter) [(.tmp 21), (.tmp 23)], none⟩, []⟩,
    ⟨5, ⟨(some 6), .op (.mv (.tmp 24)), none⟩, []⟩]
    [0, 1, 0, 7, 15, 31]) (.kill [20, 21, 22, 23, 24]))
  (.seq (.post (.reg [⟨(some 25), .op (.load 5 true (.tmp 2)), none⟩,
    ⟨(some 26), .call (.func i_laws_toRewriter) [(.tmp 25)], none⟩,
    ⟨(some 7), .op (.alloc (Value.agg #[Value.int .i64 0, Value.int .i64 0, Value.slice none 0 0, Value.slice none 0 0, Value.slice none 0 0])), none⟩,
    ⟨none, .op (.store 5 (.tmp 7) (.tmp 26)), none⟩]) (.kill [25, 26]))
  (.seq (.post (.reg [⟨(some 27), .op (.load 5 true (.tmp 3)), none⟩,
    ⟨(some 28), .call (.func i_laws_toRewriter) [(.tmp 27)], none⟩,
    ⟨(some 8), .op (.alloc (Value.agg #[Value.int .i64 0, Value.int .i64 0, Value.slice none 0 0, Value.slice none 0 0, Value.slice none 0 0])), none⟩,
    ⟨none, .op (.store 5 (.tmp 8) (.tmp 28)), none⟩]) (.kill [27, 28]))
  (.seq (.post (.reg [⟨(some 29), .op (.load 5 true (.tmp 7)), none⟩,
    ⟨(some 30), .op (.load 5 true (.tmp 8)), none⟩,
    ⟨(some 31), .call (.func i_impl_SameRewriter) [(.tmp 29), (.tmp 30)], none⟩,
    ⟨(some 9), .op (.mv (.tmp 31)), none⟩]) (.kill [29, 30, 31]))
  (.seq (.seq (.post (.reg [⟨(some 32), .op (.mv (.tmp 9)), none⟩,
    ⟨(some 33), .op (.mv (.tmp 6)), none⟩,
    ⟨(some 34), .op (.eqb true (.tmp 32) (.tmp 33)), none⟩]) (.kill [6, 9, 32, 33]))
  (.cond (.tmp 34) (.ghost (.kill [2, 3, 7, 8, 34]) (.seq (.reg [⟨(some 4), .op (.mv (.const (Value.bool false))), none⟩])
  .ret))
  (.ghost (.kill [34]) .skip)))
  (.seq (.seq (.post (.draw [⟨0, ⟨(some 35), .op (.load 5 true (.tmp 7)), none⟩, []⟩,
    ⟨1, ⟨(some 36), .op (.load 5 true (.tmp 2)), none⟩, []⟩,
    ⟨2, ⟨(some 37), .call (.func i_laws_toRewriter) [(.tmp 36)], none⟩, [0]⟩,
    ⟨3, ⟨(some 38), .call (.func i_laws_eqRewriter) [(.tmp 35), (.tmp 37)], none⟩, []⟩,
    ⟨4, ⟨(some 39), .op (.un .not (.tmp 38)), none⟩, []⟩]
    [0, 0, 2, 7, 15]) (.kill [2, 7, 35, 36, 37, 38]))
  (.cond (.tmp 39) (.ghost (.kill [3, 8, 39]) (.seq (.reg [⟨(some 4), .op (.mv (.const (Value.bool false))), none⟩])
  .ret))
  (.ghost (.kill [39]) .skip)))
  (.seq (.seq (.post (.draw [⟨0, ⟨(some 40), .op (.load 5 true (.tmp 8)), none⟩, []⟩,
    ⟨1, ⟨(some 41), .op (.load 5 true (.tmp 3)), none⟩, []⟩,
    ⟨2, ⟨(some 42), .call (.func i_laws_toRewriter) [(.tmp 41)], none⟩, [0]⟩,
    ⟨3, ⟨(some 43), .call (.func i_laws_eqRewriter) [(.tmp 40), (.tmp 42)], none⟩, []⟩,
    ⟨4, ⟨(some 44), .op (.un .not (.tmp 43)), none⟩, []⟩]
    [0, 0, 2, 7, 15]) (.kill [3, 8, 40, 41, 42, 43]))
  (.cond (.tmp 44) (.ghost (.kill [44]) (.seq (.reg [⟨(some 4), .op (.mv (.const (Value.bool false))), none⟩])
  .ret))
  (.ghost (.kill [44]) .skip)))
  (.seq (.reg [⟨(some 4), .op (.mv (.const (Value.bool true))), none⟩])
  .ret))))))))))))))
theorem cf_laws_FnExactSameRewriter : chkFn Try.prog i_laws_FnExactSameRewriter ac_laws_FnExactSameRewriter [.tmp 4] 45 = true := by decide +kernel
def fa_laws_FnExactSameRewriter : FnA := ⟨ac_laws_FnExactSameRewriter, [.tmp 4], 45, false, true⟩

/-- The checked code of spec RenameRewriter. -/
def lb_spec_RenameRewriter_0 : AC := (.post (.seq (.seq (.post (.reg [⟨(some 50), .op (.mv (.tmp 5)), none⟩,
    ⟨(some 51), .op (.bin .lss (.tmp 50) (.const (Value.int .i64 2))), none⟩]) (.kill [50]))
  (.cond (.tmp 51) (.ghost (.kill [51]) .skip)
  (.ghost (.kill [0, 5, 51]) (.exit 0))))
  (.seq (.block 1 (.seq (.post (.draw [⟨0, ⟨(some 54), .op (.faddr (.tmp 4) 2), none⟩, []⟩,
    ⟨1, ⟨(some 55), .op (.load 1 false (.tmp 54)), none⟩, []⟩,
    ⟨2, ⟨(some 56), .op (.iaddrS (.tmp 55) (.const (Value.int .i64 0)) 1), none⟩, []⟩,
    ⟨3, ⟨(some 57), .op (.load 1 false (.tmp 56)), none⟩, []⟩,
    ⟨4, ⟨(some 58), .op (.mv (.tmp 5)), none⟩, []⟩,
    ⟨5, ⟨(some 59), .op (.mv (.tmp 0)), none⟩, []⟩,
    ⟨6, ⟨(some 60), .op (.mv (.tmp 5)), none⟩, []⟩,
    ⟨7, ⟨(some 61), .op (.mv (.tmp 5)), none⟩, []⟩,
    ⟨8, ⟨(some 62), .op (.bin .add (.tmp 61) (.const (Value.int .i64 1))), none⟩, []⟩,
    ⟨9, ⟨(some 63), .op (.slcStr (.tmp 59) (some (.tmp 60)) (some (.tmp 62))), none⟩, []⟩,
    ⟨10, ⟨(some 64), .op (.iaddrS (.tmp 57) (.tmp 58) 3), none⟩, []⟩,
    ⟨11, ⟨(some 65), .op (.faddr (.tmp 64) 2), none⟩, []⟩,
    ⟨12, ⟨none, .op (.store 1 (.tmp 65) (.tmp 63)), none⟩, []⟩]
    [0, 1, 3, 7, 0, 0, 0, 0, 128, 480, 1023, 2047, 4095]) (.kill [54, 55, 56, 57, 58, 59, 60, 61, 62, 63, 64, 65]))
  (.seq (.post (.draw [⟨0, ⟨(some 66), .op (.faddr (.tmp 4) 3), none⟩, []⟩,
    ⟨1, ⟨(some 67), .op (.load 1 false (.tmp 66)), none⟩, []⟩,
    ⟨2, ⟨(some 68), .op (.iaddrS (.tmp 67) (.const (Value.int .i64 0)) 1), none⟩, []⟩,
    ⟨3, ⟨(some 69), .op (.load 1 false (.tmp 68)), none⟩, []⟩,
    ⟨4, ⟨(some 70), .op (.mv (.tmp 5)), none⟩, []⟩,
    ⟨5, ⟨(some 71), .op (.iaddrS (.tmp 69) (.tmp 70) 1), none⟩, []⟩,
    ⟨6, ⟨(some 72), .op (.load 1 false (.tmp 71)), none⟩, []⟩,
    ⟨7, ⟨(some 73), .op (.mv (.tmp 0)), none⟩, []⟩,
    ⟨8, ⟨(some 74), .op (.mv (.tmp 5)), none⟩, []⟩,
    ⟨9, ⟨(some 75), .op (.bin .add (.const (Value.int .i64 2)) (.tmp 74)), none⟩, []⟩,
    ⟨10, ⟨(some 76), .op (.mv (.tmp 5)), none⟩, []⟩,
    ⟨11, ⟨(some 77), .op (.bin .add (.const (Value.int .i64 3)) (.tmp 76)), none⟩, []⟩,
    ⟨12, ⟨(some 78), .op (.slcStr (.tmp 73) (some (.tmp 75)) (some (.tmp 77))), none⟩, []⟩,
    ⟨13, ⟨(some 79), .op (.iaddrS (.tmp 72) (.const (Value.int .i64 0)) 2), none⟩, []⟩,
    ⟨14, ⟨(some 80), .op (.faddr (.tmp 79) 1), none⟩, []⟩,
    ⟨15, ⟨none, .op (.store 1 (.tmp 80) (.tmp 78)), none⟩, []⟩]
    [0, 1, 3, 7, 0, 31, 63, 0, 0, 256, 0, 1024, 3968, 8191, 16383, 32767]) (.kill [66, 67, 68, 69, 70, 71, 72, 73, 74, 75, 76, 77, 78, 79, 80]))
  (.seq (.post (.draw [⟨0, ⟨(some 81), .op (.faddr (.tmp 4) 3), none⟩, []⟩,
    ⟨1, ⟨(some 82), .op (.load 1 false (.tmp 81)), none⟩, []⟩,
    ⟨2, ⟨(some 83), .op (.iaddrS (.tmp 82) (.const (Value.int .i64 0)) 1), none⟩, []⟩,
    ⟨3, ⟨(some 84), .op (.load 1 false (.tmp 83)), none⟩, []⟩,
    ⟨4, ⟨(some 85), .op (.mv (.tmp 5)), none⟩, []⟩,
    ⟨5, ⟨(some 86), .op (.iaddrS (.tmp 84) (.tmp 85) 1), none⟩, []⟩,
    ⟨6, ⟨(some 87), .op (.load 1 false (.tmp 86)), none⟩, []⟩,
    ⟨7, ⟨(some 88), .op (.mv (.tmp 0)), none⟩, []⟩,
    ⟨8, ⟨(some 89), .op (.mv (.tmp 5)), none⟩, []⟩,
    ⟨9, ⟨(some 90), .op (.bin .add (.const (Value.int .i64 2)) (.tmp 89)), none⟩, []⟩,
    ⟨10, ⟨(some 91), .op (.mv (.tmp 5)), none⟩, []⟩,
    ⟨11, ⟨(some 92), .op (.bin .add (.const (Value.int .i64 3)) (.tmp 91)), none⟩, []⟩,
    ⟨12, ⟨(some 93), .op (.slcStr (.tmp 88) (some (.tmp 90)) (some (.tmp 92))), none⟩, []⟩,
    ⟨13, ⟨(some 94), .op (.iaddrS (.tmp 87) (.const (Value.int .i64 1)) 2), none⟩, []⟩,
    ⟨14, ⟨(some 95), .op (.faddr (.tmp 94) 1), none⟩, []⟩,
    ⟨15, ⟨none, .op (.store 1 (.tmp 95) (.tmp 93)), none⟩, []⟩]
    [0, 1, 3, 7, 0, 31, 63, 0, 0, 256, 0, 1024, 3968, 8191, 16383, 32767]) (.kill [81, 82, 83, 84, 85, 86, 87, 88, 89, 90, 91, 92, 93, 94, 95]))
  (.post (.draw [⟨0, ⟨(some 96), .op (.faddr (.tmp 4) 4), none⟩, []⟩,
    ⟨1, ⟨(some 97), .op (.load 1 false (.tmp 96)), none⟩, []⟩,
    ⟨2, ⟨(some 98), .op (.iaddrS (.tmp 97) (.const (Value.int .i64 0)) 1), none⟩, []⟩,
    ⟨3, ⟨(some 99), .op (.load 1 false (.tmp 98)), none⟩, []⟩,
    ⟨4, ⟨(some 100), .op (.mv (.tmp 5)), none⟩, []⟩,
    ⟨5, ⟨(some 101), .op (.mv (.tmp 0)), none⟩, []⟩,
    ⟨6, ⟨(some 102), .op (.mv (.tmp 5)), none⟩, []⟩,
    ⟨7, ⟨(some 103), .op (.bin .add (.const (Value.int .i64 4)) (.tmp 102)), none⟩, []⟩,
    ⟨8, ⟨(some 104), .op (.mv (.tmp 5)), none⟩, []⟩,
    ⟨9, ⟨(some 105), .op (.bin .add (.const (Value.int .i64 5)) (.tmp 104)), none⟩, []⟩,
    ⟨10, ⟨(some 106), .op (.slcStr (.tmp 101) (some (.tmp 103)) (some (.tmp 105))), none⟩, []⟩,
    ⟨11, ⟨(some 107), .op (.iaddrS (.tmp 99) (.tmp 100) 2), none⟩, []⟩,
    ⟨12, ⟨(some 108), .op (.faddr (.tmp 107) 1), none⟩, []⟩,
    ⟨13, ⟨none, .op (.store 1 (.tmp 108) (.tmp 106)), none⟩, []⟩]
    [0, 1, 3, 7, 0, 0, 0, 64, 0, 256, 992, 2047, 4095, 8191]) (.kill [96, 97, 98, 99, 100, 101, 102, 103, 104, 105, 106, 107, 108]))))))
  (.post (.reg [⟨(some 52), .op (.mv (.tmp 5)), none⟩,
    ⟨(some 53), .op (.bin .add (.tmp 52) (.const (Value.int .i64 1))), none⟩,
    ⟨(some 5), .op (.mv (.tmp 53)), none⟩]) (.kill [52, 53])))) .nv)
def lo_spec_RenameRewriter_0 : AC := (.loop lb_spec_RenameRewriter_0)
def ac_spec_RenameRewriter : AC := (.seq (.post (.reg [⟨(some 2), .op (.alloc (Value.agg #[Value.int .i64 0, Value.int .i64 0, Value.slice none 0 0, Value.slice none 0 0, Value.slice none 0 0])), none⟩,
    ⟨(some 3), .op (.mv (.const (Value.int .i64 0))), none⟩]) (.kill [3]))
  (.seq (.seq (.post (.reg [⟨(some 6), .op (.mv (.tmp 0)), none⟩,
    ⟨(some 7), .op (.len true (.tmp 6)), none⟩,
    ⟨(some 8), .op (.bin .neq (.tmp 7) (.const (Value.int .i64 6))), none⟩,
    ⟨(some 9), .op (.mv (.tmp 8)), none⟩,
    ⟨(some 10), .op (.mv (.tmp 0)), some (9, false)⟩,
    ⟨(some 11), .call (.func i_spec_l01Ok) [(.tmp 10)], some (9, false)⟩,
    ⟨(some 12), .op (.un .not (.tmp 11)), some (9, false)⟩,
    ⟨(some 13), .op (.pick (.tmp 9) (.const (Value.bool true)) (.tmp 12)), none⟩,
    ⟨(some 14), .op (.mv (.tmp 13)), none⟩,
    ⟨(some 15), .op (.mv (.tmp 0)), some (14, false)⟩,
    ⟨(some 16), .op (.idxStr (.tmp 15) (.const (Value.int .i64 0))), some (14, false)⟩,
    ⟨(some 17), .call (.func i_spec_l01Call) [(.tmp 16)], some (14, false)⟩,
    ⟨(some 18), .op (.un .not (.tmp 17)), some (14, false)⟩,
    ⟨(some 19), .op (.pick (.tmp 14) (.const (Value.bool true)) (.tmp 18)), none⟩,
    ⟨(some 20), .op (.mv (.tmp 19)), none⟩,
    ⟨(some 21), .op (.mv (.tmp 0)), some (20, false)⟩,
    ⟨(some 22), .op (.idxStr (.tmp 21) (.const (Value.int .i64 1))), some (20, false)⟩,
    ⟨(some 23), .call (.func i_spec_l01Call) [(.tmp 22)], some (20, false)⟩,
    ⟨(some 24), .op (.un .not (.tmp 23)), some (20, false)⟩,
    ⟨(some 25), .op (.pick (.tmp 20) (.const (Value.bool true)) (.tmp 24)), none⟩,
    ⟨(some 26), .op (.mv (.tmp 25)), none⟩,
    ⟨(some 27), .op (.mv (.tmp 0)), some (26, false)⟩,
    ⟨(some 28), .op (.idxStr (.tmp 27) (.const (Value.int .i64 2))), some (26, false)⟩,
    ⟨(some 29), .call (.func i_spec_l01Return) [(.tmp 28)], some (26, false)⟩,
    ⟨(some 30), .op (.un .not (.tmp 29)), some (26, false)⟩,
    ⟨(some 31), .op (.pick (.tmp 26) (.const (Value.bool true)) (.tmp 30)), none⟩,
    ⟨(some 32), .op (.mv (.tmp 31)), none⟩,
    ⟨(some 33), .op (.mv (.tmp 0)), some (32, false)⟩,
    ⟨(some 34), .op (.idxStr (.tmp 33) (.const (Value.int .i64 3))), some (32, false)⟩,
    ⟨(some 35), .call (.func i_spec_l01Return) [(.tmp 34)], some (32, false)⟩,
    ⟨(some 36), .op (.un .not (.tmp 35)), some (32, false)⟩,
    ⟨(some 37), .op (.pick (.tmp 32) (.const (Value.bool true)) (.tmp 36)), none⟩,
    ⟨(some 38), .op (.mv (.tmp 37)), none⟩,
    ⟨(some 39), .op (.mv (.tmp 0)), some (38, false)⟩,
    ⟨(some 40), .op (.idxStr (.tmp 39) (.const (Value.int .i64 4))), some (38, false)⟩,
    ⟨(some 41), .op (.bin .lss (.tmp 40) (.const (Value.int .u8 97))), some (38, false)⟩,
    ⟨(some 42), .op (.pick (.tmp 38) (.const (Value.bool true)) (.tmp 41)), none⟩,
    ⟨(some 43), .op (.mv (.tmp 42)), none⟩,
    ⟨(some 44), .op (.mv (.tmp 0)), some (43, false)⟩,
    ⟨(some 45), .op (.idxStr (.tmp 44) (.const (Value.int .i64 5))), some (43, false)⟩,
    ⟨(some 46), .op (.bin .lss (.tmp 45) (.const (Value.int .u8 97))), some (43, false)⟩,
    ⟨(some 47), .op (.pick (.tmp 43) (.const (Value.bool true)) (.tmp 46)), none⟩]) (.kill [6, 7, 8, 9, 10, 11, 12, 13, 14, 15, 16, 17, 18, 19, 20, 21, 22, 23, 24, 25, 26, 27, 28, 29, 30, 31, 32, 33, 34, 35, 36, 37, 38, 39, 40, 41, 42, 43, 44, 45, 46]))
  (.cond (.tmp 47) (.ghost (.kill [0, 47]) (.seq (.post (.reg [⟨(some 48), .op (.build [Value.int .i64 0, Value.int .i64 0, Value.slice none 0 0, Value.slice none 0 0, Value.slice none 0 0] []), none⟩,
    ⟨none, .op (.store 5 (.tmp 2) (.tmp 48)), none⟩,
    ⟨(some 3), .op (.mv (.const (Value.int .i64 2))), none⟩]) (.kill [48]))
  .ret))
  (.ghost (.kill [47]) .skip)))
  (.seq (.post (.reg [⟨(some 49), .call (.func i_spec_l06Plain) [(.const (Value.int .i64 1)), (.const (Value.int .i64 1))], none⟩,
    ⟨(some 4), .op (.alloc (Value.agg #[Value.int .i64 0, Value.int .i64 0, Value.slice none 0 0, Value.slice none 0 0, Value.slice none 0 0])), none⟩,
    ⟨none, .op (.store 5 (.tmp 4) (.tmp 49)), none⟩]) (.kill [49]))
  (.seq (.seq (.reg [⟨(some 5), .op (.mv (.const (Value.int .i64 0))), none⟩])
  (.post (.block 0 (.ghost .nv lo_spec_RenameRewriter_0)) .nv))
  (.ghost (.kill [0, 5]) (.seq (.post (.reg [⟨(some 109), .op (.load 5 true (.tmp 4)), none⟩,
    ⟨none, .op (.store 5 (.tmp 2) (.tmp 109)), none⟩,
    ⟨(some 3), .op (.mv (.const (Value.int .i64 0))), none⟩]) (.kill [4, 109]))
  .ret))))))
theorem cf_spec_RenameRewriter : chkFn Try.prog i_spec_RenameRewriter ac_spec_RenameRewriter [.cell 2 5 true, .tmp 3] 110 = true := by decide +kernel
def fa_spec_RenameRewriter : FnA := ⟨ac_spec_RenameRewriter, [.cell 2 5 true, .tmp 3], 110, false, true⟩

/-- The checked code of impl isInner. -/
def ac_impl_isInner : AC := (.seq (.post (.reg [⟨(some 2), .op (.mv (.const (Value.bool false))), none⟩]) (.kill [2]))
  (.seq (.post (.reg [⟨(some 3), .op (.mv (.tmp 0)), none⟩,
    ⟨(some 4), .op (.bin .eql (.tmp 3) (.const (Value.int .u8 97))), none⟩,
    ⟨(some 5), .op (.mv (.tmp 4)), none⟩,
    ⟨(some 6), .op (.mv (.tmp 0)), some (5, false)⟩,
    ⟨(some 7), .op (.bin .eql (.tmp 6) (.const (Value.int .u8 98))), some (5, false)⟩,
    ⟨(some 8), .op (.pick (.tmp 5) (.const (Value.bool true)) (.tmp 7)), none⟩,
    ⟨(some 2), .op (.mv (.tmp 8)), none⟩]) (.kill [0, 3, 4, 5, 6, 7, 8]))
  .ret))
theorem cf_impl_isInner : chkFn Try.prog i_impl_isInner ac_impl_isInner [.tmp 2] 9 = true := by decide +kernel
def fa_impl_isInner : FnA := ⟨ac_impl_isInner, [.tmp 2], 9, false, true⟩

/-- The checked code of impl RenameRewriter 1. -/
def ac_impl_RenameRewriter_1 : AC := (.seq (.post (.reg [⟨(some 3), .op (.mv (.const (Value.string ⟨#[]⟩))), none⟩]) (.kill [3]))
  (.seq (.post (.reg [⟨(some 4), .op (.load 1 false (.tmp 1)), none⟩,
    ⟨(some 5), .op (.mv (.tmp 0)), none⟩,
    ⟨(some 6), .op (.mv (.tmp 0)), none⟩,
    ⟨(some 7), .op (.bin .add (.tmp 6) (.const (Value.int .i64 1))), none⟩,
    ⟨(some 8), .op (.slcStr (.tmp 4) (some (.tmp 5)) (some (.tmp 7))), none⟩,
    ⟨(some 3), .op (.mv (.tmp 8)), none⟩]) (.kill [0, 1, 4, 5, 6, 7, 8]))
  .ret))
theorem cf_impl_RenameRewriter_1 : chkFn Try.prog i_impl_RenameRewriter_1 ac_impl_RenameRewriter_1 [.tmp 3] 9 = true := by decide +kernel
def fa_impl_RenameRewriter_1 : FnA := ⟨ac_impl_RenameRewriter_1, [.tmp 3], 9, false, true⟩

/-- The checked code of impl RenameRewriter. -/
def lb_impl_RenameRewriter_0 : AC := (.post (.seq (.reg [⟨(some 16), .op (.bin .lss (.tmp 15) (.const (Value.int .i64 6))), none⟩])
  (.seq (.cond (.tmp 16) (.ghost (.kill [16]) .skip)
  (.ghost (.kill [15, 16]) (.exit 0)))
  (.seq (.block 1 (.seq (.post (.reg [⟨(some 17), .op (.mv (.tmp 15)), none⟩,
    ⟨(some 4), .op (.mv (.tmp 17)), none⟩]) (.kill [17]))
  (.seq (.post (.reg [⟨(some 18), .op (.load 1 false (.tmp 1)), none⟩,
    ⟨(some 19), .op (.mv (.tmp 4)), none⟩,
    ⟨(some 20), .op (.idxStr (.tmp 18) (.tmp 19)), none⟩,
    ⟨(some 5), .op (.mv (.tmp 20)), none⟩]) (.kill [18, 19, 20]))
  (.seq (.post (.reg [⟨(some 21), .op (.mv (.tmp 4)), none⟩,
    ⟨(some 22), .op (.bin .lss (.tmp 21) (.const (Value.int .i64 2))), none⟩,
    ⟨(some 23), .op (.mv (.tmp 22)), none⟩,
    ⟨(some 24), .op (.mv (.tmp 5)), some (23, true)⟩,
    ⟨(some 25), .call (.func i_impl_isCall) [(.tmp 24)], some (23, true)⟩,
    ⟨(some 26), .op (.un .not (.tmp 25)), some (23, true)⟩,
    ⟨(some 27), .op (.pick (.tmp 23) (.tmp 26) (.const (Value.bool false))), none⟩,
    ⟨(some 28), .op (.mv (.tmp 27)), none⟩,
    ⟨(some 29), .op (.mv (.tmp 4)), some (28, false)⟩,
    ⟨(some 30), .op (.bin .geq (.tmp 29) (.const (Value.int .i64 2))), some (28, false)⟩,
    ⟨(some 31), .op (.mv (.tmp 30)), some (28, false)⟩,
    ⟨(some 32), .op (.mv (.tmp 4)), some (31, true)⟩,
    ⟨(some 33), .op (.bin .lss (.tmp 32) (.const (Value.int .i64 4))), some (31, true)⟩,
    ⟨(some 34), .op (.pick (.tmp 31) (.tmp 33) (.const (Value.bool false))), some (28, false)⟩,
    ⟨(some 35), .op (.mv (.tmp 34)), some (28, false)⟩,
    ⟨(some 36), .op (.mv (.tmp 5)), some (35, true)⟩,
    ⟨(some 37), .call (.func i_impl_isReturn) [(.tmp 36)], some (35, true)⟩,
    ⟨(some 38), .op (.un .not (.tmp 37)), some (35, true)⟩,
    ⟨(some 39), .op (.pick (.tmp 35) (.tmp 38) (.const (Value.bool false))), some (28, false)⟩,
    ⟨(some 40), .op (.pick (.tmp 28) (.const (Value.bool true)) (.tmp 39)), none⟩,
    ⟨(some 41), .op (.mv (.tmp 40)), none⟩,
    ⟨(some 42), .op (.mv (.tmp 4)), some (41, false)⟩,
    ⟨(some 43), .op (.bin .geq (.tmp 42) (.const (Value.int .i64 4))), some (41, false)⟩,
    ⟨(some 44), .op (.mv (.tmp 43)), some (41, false)⟩,
    ⟨(some 45), .op (.mv (.tmp 5)), some (44, true)⟩,
    ⟨(some 46), .call (.func i_impl_isInner) [(.tmp 45)], some (44, true)⟩,
    ⟨(some 47), .op (.un .not (.tmp 46)), some (44, true)⟩,
    ⟨(some 48), .op (.pick (.tmp 44) (.tmp 47) (.const (Value.bool false))), some (41, false)⟩,
    ⟨(some 49), .op (.pick (.tmp 41) (.const (Value.bool true)) (.tmp 48)), none⟩]) (.kill [4, 5, 21, 22, 23, 24, 25, 26, 27, 28, 29, 30, 31, 32, 33, 34, 35, 36, 37, 38, 39, 40, 41, 42, 43, 44, 45, 46, 47, 48]))
  (.cond (.tmp 49) (.ghost (.kill [1, 15, 49]) (.seq (.post (.reg [⟨(some 50), .op (.build [Value.int .i64 0, Value.int .i64 0, Value.slice none 0 0, Value.slice none 0 0, Value.slice none 0 0] []), none⟩,
    ⟨none, .op (.store 5 (.tmp 2) (.tmp 50)), none⟩,
    ⟨(some 3), .op (.mv (.const (Value.int .i64 2))), none⟩]) (.kill [50]))
  .ret))
  (.ghost (.kill [49]) .skip))))))
  (.post (.reg [⟨(some 51), .op (.bin .add (.tmp 15) (.const (Value.int .i64 1))), none⟩,
    ⟨(some 15), .op (.mv (.tmp 51)), none⟩]) (.kill [51]))))) .nv)
def lo_impl_RenameRewriter_0 : AC := (.loop lb_impl_RenameRewriter_0)
def ac_impl_RenameRewriter : AC := (.seq (.post (.reg [⟨(some 1), .op (.box true (.tmp 0)), none⟩,
    ⟨(some 2), .op (.alloc (Value.agg #[Value.int .i64 0, Value.int .i64 0, Value.slice none 0 0, Value.slice none 0 0, Value.slice none 0 0])), none⟩,
    ⟨(some 3), .op (.mv (.const (Value.int .i64 0))), none⟩]) (.kill [0, 3]))
  (.seq (.seq (.post (.reg [⟨(some 6), .op (.load 1 false (.tmp 1)), none⟩,
    ⟨(some 7), .op (.len true (.tmp 6)), none⟩,
    ⟨(some 8), .op (.bin .neq (.tmp 7) (.const (Value.int .i64 6))), none⟩,
    ⟨(some 9), .op (.mv (.tmp 8)), none⟩,
    ⟨(some 10), .op (.load 1 false (.tmp 1)), some (9, false)⟩,
    ⟨(some 11), .call (.func i_impl_ValidWord) [(.tmp 10)], some (9, false)⟩,
    ⟨(some 12), .op (.un .not (.tmp 11)), some (9, false)⟩,
    ⟨(some 13), .op (.pick (.tmp 9) (.const (Value.bool true)) (.tmp 12)), none⟩]) (.kill [6, 7, 8, 9, 10, 11, 12]))
  (.cond (.tmp 13) (.ghost (.kill [1, 13]) (.seq (.post (.reg [⟨(some 14), .op (.build [Value.int .i64 0, Value.int .i64 0, Value.slice none 0 0, Value.slice none 0 0, Value.slice none 0 0] []), none⟩,
    ⟨none, .op (.store 5 (.tmp 2) (.tmp 14)), none⟩,
    ⟨(some 3), .op (.mv (.const (Value.int .i64 2))), none⟩]) (.kill [14]))
  .ret))
  (.ghost (.kill [13]) .skip)))
  (.seq (.seq (.reg [⟨(some 15), .op (.mv (.const (Value.int .i64 0))), none⟩])
  (.post (.block 0 (.ghost .nv lo_impl_RenameRewriter_0)) .nv))
  (.ghost (.kill [15]) (.seq (.post (.reg [⟨(some 52), .op (.mkfn i_impl_RenameRewriter_1 [(.tmp 1)]), none⟩,
    ⟨(some 53), .call (.func i_impl_renaming) [(.tmp 52)], none⟩,
    ⟨none, .op (.store 5 (.tmp 2) (.tmp 53)), none⟩,
    ⟨(some 3), .op (.mv (.const (Value.int .i64 0))), none⟩]) (.kill [1, 52, 53]))
  .ret)))))
theorem cf_impl_RenameRewriter : chkFn Try.prog i_impl_RenameRewriter ac_impl_RenameRewriter [.cell 2 5 true, .tmp 3] 54 = true := by decide +kernel
def fa_impl_RenameRewriter : FnA := ⟨ac_impl_RenameRewriter, [.cell 2 5 true, .tmp 3], 54, false, false⟩

/-- The checked code of laws FnExactRenameRewriter. -/
def ac_laws_FnExactRenameRewriter : AC := (.seq (.post (.reg [⟨(some 2), .op (.mv (.const (Value.bool false))), none⟩]) (.kill [2]))
  (.seq (.seq (.post (.reg [⟨(some 11), .op (.mv (.tmp 0)), none⟩,
    ⟨(some 12), .op (.len true (.tmp 11)), none⟩,
    ⟨(some 13), .op (.bin .gtr (.tmp 12) (.const (Value.int .i64 1048576))), none⟩]) (.kill [11, 12]))
  (.cond (.tmp 13) (.ghost (.kill [0, 13]) (.seq (.reg [⟨(some 2), .op (.mv (.const (Value.bool true))), none⟩])
  .ret))
  (.ghost (.kill [13]) .skip)))
  (.seq (.post (.reg [⟨(some 15), .op (.mv (.tmp 0)), none⟩,
    ⟨(some 16), .call (.func i_spec_RenameRewriter) [(.tmp 15)], none⟩,
    ⟨(some 14), .op (.mv (.tmp 16)), none⟩,
    ⟨(some 17), .op (.ext (.tmp 14) 0), none⟩,
    ⟨(some 18), .op (.ext (.tmp 14) 1), none⟩,
    ⟨(some 3), .op (.alloc (Value.agg #[Value.int .i64 0, Value.int .i64 0, Value.slice none 0 0, Value.slice none 0 0, Value.slice none 0 0])), none⟩,
    ⟨none, .op (.store 5 (.tmp 3) (.tmp 17)), none⟩,
    ⟨(some 4), .op (.mv (.tmp 18)), none⟩]) (.kill [14, 15, 16, 17, 18]))
  (.seq (.post (.reg [⟨(some 20), .op (.mv (.tmp 0)), none⟩,
    ⟨(some 21), .call (.func i_impl_RenameRewriter) [(.tmp 20)], none⟩,
    ⟨(some 19), .op (.mv (.tmp 21)), none⟩,
    ⟨(some 22), .op (.ext (.tmp 19) 0), none⟩,
    ⟨(some 23), .op (.ext (.tmp 19) 1), none⟩,
    ⟨(some 5), .op (.alloc (Value.agg #[Value.int .i64 0, Value.int .i64 0, Value.slice none 0 0, Value.slice none 0 0, Value.slice none 0 0])), none⟩,
    ⟨none, .op (.store 5 (.tmp 5) (.tmp 22)), none⟩,
    ⟨(some 6), .op (.mv (.tmp 23)), none⟩]) (.kill [19, 20, 21, 22, 23]))
  (.seq (.seq (.post (.reg [⟨(some 24), .op (.load 5 true (.tmp 5)), none⟩,
    ⟨(some 25), .op (.load 5 true (.tmp 3)), none⟩,
    ⟨(some 26), .call (.func i_laws_eqRewriter) [(.tmp 24), (.tmp 25)], none⟩,
    ⟨(some 27), .op (.un .not (.tmp 26)), none⟩,
    ⟨(some 28), .op (.mv (.tmp 27)), none⟩,
    ⟨(some 29), .op (.mv (.tmp 6)), some (28, false)⟩,
    ⟨(some 30), .op (.mv (.tmp 4)), some (28, false)⟩,
    ⟨(some 31), .op (.bin .neq (.tmp 29) (.tmp 30)), some (28, false)⟩,
    ⟨(some 32), .op (.pick (.tmp 28) (.const (Value.bool true)) (.tmp 31)), none⟩]) (.kill [6, 24, 25, 26, 27, 28, 29, 30, 31]))
  (.cond (.tmp 32) (.ghost (.kill [0, 3, 4, 5, 32]) (.seq (.reg [⟨(some 2), .op (.mv (.const (Value.bool false))), none⟩])
  .ret))
  (.ghost (.kill [32]) .skip)))
  (.seq (.reg [⟨(some 7), .op (.mv (.const (Value.int .i64 1))), none⟩])
  (.seq (.post (.reg [⟨(some 33), .op (.load 5 true (.tmp 5)), none⟩,
    ⟨(some 34), .op (.mv (.tmp 7)), none⟩,
    ⟨(some 35), .call (.func i_laws_markRewriter) [(.tmp 33), (.tmp 34)], none⟩,
    ⟨(some 7), .op (.mv (.tmp 35)), none⟩]) (.kill [33, 34, 35]))
  (.seq (.reg [⟨(some 8), .op (.mv (.const (Value.int .i64 1))), none⟩])
  (.seq (.post (.reg [⟨(some 36), .op (.load 5 true (.tmp 5)), none⟩,
    ⟨(some 37), .op (.mv (.tmp 8)), none⟩,
    ⟨(some 38), .call (.func i_laws_heldRewriter) [(.tmp 36), (.tmp 37)], none⟩,
    ⟨(some 8), .op (.mv (.tmp 38)), none⟩]) (.kill [36, 37, 38]))
  (.seq (.seq (.post (.reg [⟨(some 39), .op (.mv (.tmp 8)), none⟩,
    ⟨(some 40), .op (.bin .lss (.tmp 39) (.const (Value.int .i64 0))), none⟩]) (.kill [39]))
  (.cond (.tmp 40) (.ghost (.kill [0, 3, 4, 5, 7, 8, 40]) (.seq (.reg [⟨(some 2), .op (.mv (.const (Value.bool false))), none⟩])
  .ret))
  (.ghost (.kill [40]) .skip)))
  (.seq (.seq (.post (.reg [⟨(some 41), .op (.mv (.tmp 8)), none⟩,
    ⟨(some 42), .op (.mv (.tmp 7)), none⟩,
    ⟨(some 43), .op (.bin .neq (.tmp 41) (.tmp 42)), none⟩]) (.kill [8, 41, 42]))
  (.cond (.tmp 43) (.ghost (.kill [0, 3, 4, 5, 7, 43]) (.seq (.reg [⟨(some 2), .op (.mv (.const (Value.bool false))), none⟩])
  .ret))
  (.ghost (.kill [43]) .skip)))
  (.seq (.post (.reg [⟨(some 45), .op (.mv (.tmp 0)), none⟩,
    ⟨(some 46), .call (.func i_impl_RenameRewriter) [(.tmp 45)], none⟩,
    ⟨(some 44), .op (.mv (.tmp 46)), none⟩,
    ⟨(some 47), .op (.ext (.tmp 44) 0), none⟩,
    ⟨(some 48), .op (.ext (.tmp 44) 1), none⟩,
    ⟨(some 9), .op (.alloc (Value.agg #[Value.int .i64 0, Value.int .i64 0, Value.slice none 0 0, Value.slice none 0 0, Value.slice none 0 0])), none⟩,
    ⟨none, .op (.store 5 (.tmp 9) (.tmp 47)), none⟩,
    ⟨(some 10), .op (.mv (.tmp 48)), none⟩]) (.kill [0, 44, 45, 46, 47, 48]))
  (.seq (.seq (.post (.reg [⟨(some 49), .op (.load 5 true (.tmp 9)), none⟩,
    ⟨(some 50), .op (.load 5 true (.tmp 3)), none⟩,
    ⟨(some 51), .call (.func i_laws_eqRewriter) [(.tmp 49), (.tmp 50)], none⟩,
    ⟨(some 52), .op (.un .not (.tmp 51)), none⟩,
    ⟨(some 53), .op (.mv (.tmp 52)), none⟩,
    ⟨(some 54), .op (.mv (.tmp 10)), some (53, false)⟩,
    ⟨(some 55), .op (.mv (.tmp 4)), some (53, false)⟩,
    ⟨(some 56), .op (.bin .neq (.tmp 54) (.tmp 55)), some (53, false)⟩,
    ⟨(some 57), .op (.pick (.tmp 53) (.const (Value.bool true)) (.tmp 56)), none⟩]) (.kill [3, 4, 9, 10, 49, 50, 51, 52, 53, 54, 55, 56]))
  (.cond (.tmp 57) (.ghost (.kill [5, 7, 57]) (.seq (.reg [⟨(some 2), .op (.mv (.const (Value.bool false))), none⟩])
  .ret))
  (.ghost (.kill [57]) .skip)))
  (.seq (.reg [⟨(some 8), .op (.mv (.const (Value.int .i64 1))), none⟩])
  (.seq (.post (.reg [⟨(some 58), .op (.load 5 true (.tmp 5)), none⟩,
    ⟨(some 59), .op (.mv (.tmp 8)), none⟩,
    ⟨(some 60), .call (.func i_laws_heldRewriter) [(.tmp 58), (.tmp 59)], none⟩,
    ⟨(some 8), .op (.mv (.tmp 60)), none⟩]) (.kill [5, 58, 59, 60]))
  (.seq (.seq (.post (.reg [⟨(some 61), .op (.mv (.tmp 8)), none⟩,
    ⟨(some 62), .op (.bin .lss (.tmp 61) (.const (Value.int .i64 0))), none⟩]) (.kill [61]))
  (.cond (.tmp 62) (.ghost (.kill [7, 8, 62]) (.seq (.reg [⟨(some 2), .op (.mv (.const (Value.bool false))), none⟩])
  .ret))
  (.ghost (.kill [62]) .skip)))
  (.seq (.seq (.post (.reg [⟨(some 63), .op (.mv (.tmp 8)), none⟩,
    ⟨(some 64), .op (.mv (.tmp 7)), none⟩,
    ⟨(some 65), .op (.bin .neq (.tmp 63) (.tmp 64)), none⟩]) (.kill [7, 8, 63, 64]))
  (.cond (.tmp 65) (.ghost (.kill [65]) (.seq (.reg [⟨(some 2), .op (.mv (.const (Value.bool false))), none⟩])
  .ret))
  (.ghost (.kill [65]) .skip)))
  (.seq (.reg [⟨(some 2), .op (.mv (.const (Value.bool true))), none⟩])
  .ret))))))))))))))))))
theorem cf_laws_FnExactRenameRewriter : chkFn Try.prog i_laws_FnExactRenameRewriter ac_laws_FnExactRenameRewriter [.tmp 2] 66 = true := by decide +kernel
def fa_laws_FnExactRenameRewriter : FnA := ⟨ac_laws_FnExactRenameRewriter, [.tmp 2], 66, false, true⟩

/-- The checked code of spec l06Given. -/
def ac_spec_l06Given : AC := (.seq (.post (.reg [⟨(some 4), .op (.mv (.const (Value.int .i64 0))), none⟩]) (.kill [4]))
  (.seq (.seq (.post (.reg [⟨(some 5), .op (.mv (.tmp 0)), none⟩,
    ⟨(some 6), .call (.func i_spec_l01Ok) [(.tmp 5)], none⟩,
    ⟨(some 7), .op (.un .not (.tmp 6)), none⟩,
    ⟨(some 8), .op (.mv (.tmp 7)), none⟩,
    ⟨(some 9), .op (.mv (.tmp 1)), some (8, false)⟩,
    ⟨(some 10), .call (.func i_spec_l06Edit) [(.tmp 9)], some (8, false)⟩,
    ⟨(some 11), .op (.un .not (.tmp 10)), some (8, false)⟩,
    ⟨(some 12), .op (.pick (.tmp 8) (.const (Value.bool true)) (.tmp 11)), none⟩]) (.kill [0, 1, 5, 6, 7, 8, 9, 10, 11]))
  (.cond (.tmp 12) (.ghost (.kill [12]) (.seq (.reg [⟨(some 4), .op (.mv (.const (Value.int .i64 1))), none⟩])
  .ret))
  (.ghost (.kill [12]) .skip)))
  (.seq (.reg [⟨(some 4), .op (.mv (.const (Value.int .i64 0))), none⟩])
  .ret)))
theorem cf_spec_l06Given : chkFn Try.prog i_spec_l06Given ac_spec_l06Given [.tmp 4] 13 = true := by decide +kernel
def fa_spec_l06Given : FnA := ⟨ac_spec_l06Given, [.tmp 4], 13, false, true⟩

/-- The checked code of spec l01Told. -/
def ac_spec_l01Told : AC := (.seq (.post (.reg [⟨(some 2), .op (.mv (.const (Value.string ⟨#[]⟩))), none⟩,
    ⟨(some 3), .op (.mv (.const (Value.int .i64 0))), none⟩]) (.kill [2, 3]))
  (.seq (.seq (.post (.reg [⟨(some 4), .op (.mv (.tmp 0)), none⟩,
    ⟨(some 5), .op (.len true (.tmp 4)), none⟩,
    ⟨(some 6), .op (.bin .gtr (.tmp 5) (.const (Value.int .i64 60))), none⟩]) (.kill [4, 5]))
  (.cond (.tmp 6) (.ghost (.kill [0, 6]) (.seq (.reg [⟨(some 2), .op (.mv (.const (Value.string ⟨#[]⟩))), none⟩,
    ⟨(some 3), .op (.mv (.const (Value.int .i64 3))), none⟩])
  .ret))
  (.ghost (.kill [6]) .skip)))
  (.seq (.post (.reg [⟨(some 7), .op (.mv (.tmp 0)), none⟩,
    ⟨(some 2), .op (.mv (.tmp 7)), none⟩,
    ⟨(some 3), .op (.mv (.const (Value.int .i64 0))), none⟩]) (.kill [0, 7]))
  .ret)))
theorem cf_spec_l01Told : chkFn Try.prog i_spec_l01Told ac_spec_l01Told [.tmp 2, .tmp 3] 8 = true := by decide +kernel
def fa_spec_l01Told : FnA := ⟨ac_spec_l01Told, [.tmp 2, .tmp 3], 8, false, true⟩

/-- The checked code of spec PutAt. -/
def ac_spec_PutAt : AC := (.seq (.post (.reg [⟨(some 6), .op (.mv (.const (Value.string ⟨#[]⟩))), none⟩,
    ⟨(some 7), .op (.mv (.const (Value.int .i64 0))), none⟩]) (.kill [6, 7]))
  (.seq (.seq (.post (.reg [⟨(some 8), .op (.mv (.tmp 0)), none⟩,
    ⟨(some 9), .call (.func i_spec_l01Ok) [(.tmp 8)], none⟩,
    ⟨(some 10), .op (.un .not (.tmp 9)), none⟩,
    ⟨(some 11), .op (.mv (.tmp 10)), none⟩,
    ⟨(some 12), .op (.mv (.tmp 2)), some (11, false)⟩,
    ⟨(some 13), .call (.func i_spec_l01Ok) [(.tmp 12)], some (11, false)⟩,
    ⟨(some 14), .op (.un .not (.tmp 13)), some (11, false)⟩,
    ⟨(some 15), .op (.pick (.tmp 11) (.const (Value.bool true)) (.tmp 14)), none⟩]) (.kill [8, 9, 10, 11, 12, 13, 14]))
  (.cond (.tmp 15) (.ghost (.kill [0, 1, 2, 15]) (.seq (.reg [⟨(some 6), .op (.mv (.const (Value.string ⟨#[]⟩))), none⟩,
    ⟨(some 7), .op (.mv (.const (Value.int .i64 1))), none⟩])
  .ret))
  (.ghost (.kill [15]) .skip)))
  (.seq (.seq (.post (.reg [⟨(some 16), .op (.mv (.tmp 1)), none⟩,
    ⟨(some 17), .op (.mv (.tmp 0)), none⟩,
    ⟨(some 18), .op (.len true (.tmp 17)), none⟩,
    ⟨(some 19), .call (.func i_spec_l00In) [(.tmp 16), (.const (Value.int .i64 0)), (.tmp 18)], none⟩,
    ⟨(some 20), .op (.un .not (.tmp 19)), none⟩]) (.kill [16, 17, 18, 19]))
  (.cond (.tmp 20) (.ghost (.kill [0, 1, 2, 20]) (.seq (.reg [⟨(some 6), .op (.mv (.const (Value.string ⟨#[]⟩))), none⟩,
    ⟨(some 7), .op (.mv (.const (Value.int .i64 2))), none⟩])
  .ret))
  (.ghost (.kill [20]) .skip)))
  (.seq (.seq (.post (.reg [⟨(some 21), .op (.mv (.tmp 2)), none⟩,
    ⟨(some 22), .call (.func i_spec_l01Matched) [(.tmp 21)], none⟩,
    ⟨(some 23), .op (.un .not (.tmp 22)), none⟩]) (.kill [21, 22]))
  (.cond (.tmp 23) (.ghost (.kill [0, 1, 2, 23]) (.seq (.reg [⟨(some 6), .op (.mv (.const (Value.string ⟨#[]⟩))), none⟩,
    ⟨(some 7), .op (.mv (.const (Value.int .i64 4))), none⟩])
  .ret))
  (.ghost (.kill [23]) .skip)))
  (.seq (.post (.draw [⟨0, ⟨(some 24), .op (.mv (.tmp 0)), none⟩, []⟩,
    ⟨1, ⟨(some 25), .op (.mv (.tmp 1)), none⟩, []⟩,
    ⟨2, ⟨(some 26), .op (.slcStr (.tmp 24) none (some (.tmp 25))), none⟩, []⟩,
    ⟨3, ⟨(some 27), .op (.mv (.tmp 2)), none⟩, []⟩,
    ⟨4, ⟨(some 28), .op (.bin .add (.tmp 26) (.tmp 27)), none⟩, []⟩,
    ⟨5, ⟨(some 29), .op (.mv (.tmp 0)), none⟩, []⟩,
    ⟨6, ⟨(some 30), .op (.mv (.tmp 1)), none⟩, []⟩,
    ⟨7, ⟨(some 31), .op (.slcStr (.tmp 29) (some (.tmp 30)) none), none⟩, []⟩,
    ⟨8, ⟨(some 32), .op (.bin .add (.tmp 28) (.tmp 31)), none⟩, []⟩,
    ⟨9, ⟨(some 33), .call (.func i_spec_l01Told) [(.tmp 32)], none⟩, []⟩,
    ⟨10, ⟨(some 34), .op (.ext (.tmp 33) 0), none⟩, []⟩,
    ⟨11, ⟨(some 35), .op (.ext (.tmp 33) 1), none⟩, []⟩,
    ⟨12, ⟨(some 6), .op (.mv (.tmp 34)), none⟩, []⟩,
    ⟨13, ⟨(some 7), .op (.mv (.tmp 35)), none⟩, []⟩]
    [0, 0, 3, 0, 15, 0, 0, 96, 255, 511, 1023, 1023, 4095, 8191]) (.kill [0, 1, 2, 24, 25, 26, 27, 28, 29, 30, 31, 32, 33, 34, 35]))
  .ret)))))
theorem cf_spec_PutAt : chkFn Try.prog i_spec_PutAt ac_spec_PutAt [.tmp 6, .tmp 7] 36 = true := by decide +kernel
def fa_spec_PutAt : FnA := ⟨ac_spec_PutAt, [.tmp 6, .tmp 7], 36, false, true⟩

/-- The checked code of spec l01Closed. -/
def ac_spec_l01Closed : AC := (.seq (.post (.reg [⟨(some 4), .op (.mv (.const (Value.int .i64 0))), none⟩,
    ⟨(some 5), .op (.mv (.const (Value.int .i64 0))), none⟩]) (.kill [4, 5]))
  (.seq (.seq (.post (.reg [⟨(some 7), .op (.mv (.tmp 0)), none⟩,
    ⟨(some 8), .call (.func i_spec_l01Ok) [(.tmp 7)], none⟩,
    ⟨(some 9), .op (.un .not (.tmp 8)), none⟩]) (.kill [7, 8]))
  (.cond (.tmp 9) (.ghost (.kill [0, 1, 9]) (.seq (.reg [⟨(some 4), .op (.mv (.const (Value.int .i64 0))), none⟩,
    ⟨(some 5), .op (.mv (.const (Value.int .i64 1))), none⟩])
  .ret))
  (.ghost (.kill [9]) .skip)))
  (.seq (.seq (.post (.reg [⟨(some 10), .op (.mv (.tmp 1)), none⟩,
    ⟨(some 11), .op (.mv (.tmp 0)), none⟩,
    ⟨(some 12), .op (.len true (.tmp 11)), none⟩,
    ⟨(some 13), .op (.bin .sub (.tmp 12) (.const (Value.int .i64 1))), none⟩,
    ⟨(some 14), .call (.func i_spec_l00In) [(.tmp 10), (.const (Value.int .i64 0)), (.tmp 13)], none⟩,
    ⟨(some 15), .op (.un .not (.tmp 14)), none⟩]) (.kill [10, 11, 12, 13, 14]))
  (.cond (.tmp 15) (.ghost (.kill [0, 1, 15]) (.seq (.reg [⟨(some 4), .op (.mv (.const (Value.int .i64 0))), none⟩,
    ⟨(some 5), .op (.mv (.const (Value.int .i64 2))), none⟩])
  .ret))
  (.ghost (.kill [15]) .skip)))
  (.seq (.post (.reg [⟨(some 16), .op (.mv (.tmp 0)), none⟩,
    ⟨(some 17), .call (.func i_spec_l01Partners) [(.tmp 16)], none⟩,
    ⟨(some 18), .op (.mv (.tmp 1)), none⟩,
    ⟨(some 19), .op (.iaddrS (.tmp 17) (.tmp 18) 1), none⟩,
    ⟨(some 20), .op (.load 1 false (.tmp 19)), none⟩,
    ⟨(some 6), .op (.mv (.tmp 20)), none⟩]) (.kill [16, 17, 18, 19, 20]))
  (.seq (.seq (.post (.reg [⟨(some 21), .op (.mv (.tmp 0)), none⟩,
    ⟨(some 22), .op (.mv (.tmp 1)), none⟩,
    ⟨(some 23), .op (.idxStr (.tmp 21) (.tmp 22)), none⟩,
    ⟨(some 24), .call (.func i_spec_l01Call) [(.tmp 23)], none⟩,
    ⟨(some 25), .op (.un .not (.tmp 24)), none⟩,
    ⟨(some 26), .op (.mv (.tmp 25)), none⟩,
    ⟨(some 27), .op (.mv (.tmp 6)), some (26, false)⟩,
    ⟨(some 28), .op (.bin .lss (.tmp 27) (.const (Value.int .i64 0))), some (26, false)⟩,
    ⟨(some 29), .op (.pick (.tmp 26) (.const (Value.bool true)) (.tmp 28)), none⟩]) (.kill [0, 1, 21, 22, 23, 24, 25, 26, 27, 28]))
  (.cond (.tmp 29) (.ghost (.kill [6, 29]) (.seq (.reg [⟨(some 4), .op (.mv (.const (Value.int .i64 0))), none⟩,
    ⟨(some 5), .op (.mv (.const (Value.int .i64 4))), none⟩])
  .ret))
  (.ghost (.kill [29]) .skip)))
  (.seq (.post (.reg [⟨(some 30), .op (.mv (.tmp 6)), none⟩,
    ⟨(some 4), .op (.mv (.tmp 30)), none⟩,
    ⟨(some 5), .op (.mv (.const (Value.int .i64 0))), none⟩]) (.kill [6, 30]))
  .ret))))))
theorem cf_spec_l01Closed : chkFn Try.prog i_spec_l01Closed ac_spec_l01Closed [.tmp 4, .tmp 5] 31 = true := by decide +kernel
def fa_spec_l01Closed : FnA := ⟨ac_spec_l01Closed, [.tmp 4, .tmp 5], 31, false, true⟩

/-- The checked code of spec CutMatched. -/
def ac_spec_CutMatched : AC := (.seq (.post (.reg [⟨(some 4), .op (.mv (.const (Value.string ⟨#[]⟩))), none⟩,
    ⟨(some 5), .op (.mv (.const (Value.int .i64 0))), none⟩]) (.kill [4, 5]))
  (.seq (.post (.reg [⟨(some 9), .op (.mv (.tmp 0)), none⟩,
    ⟨(some 10), .op (.mv (.tmp 1)), none⟩,
    ⟨(some 11), .call (.func i_spec_l01Closed) [(.tmp 9), (.tmp 10)], none⟩,
    ⟨(some 8), .op (.mv (.tmp 11)), none⟩,
    ⟨(some 12), .op (.ext (.tmp 8) 0), none⟩,
    ⟨(some 13), .op (.ext (.tmp 8) 1), none⟩,
    ⟨(some 6), .op (.mv (.tmp 12)), none⟩,
    ⟨(some 7), .op (.mv (.tmp 13)), none⟩]) (.kill [8, 9, 10, 11, 12, 13]))
  (.seq (.seq (.post (.reg [⟨(some 14), .op (.mv (.tmp 7)), none⟩,
    ⟨(some 15), .op (.bin .neq (.tmp 14) (.const (Value.int .i64 0))), none⟩]) (.kill [14]))
  (.cond (.tmp 15) (.ghost (.kill [0, 1, 6, 15]) (.seq (.post (.reg [⟨(some 16), .op (.mv (.tmp 7)), none⟩,
    ⟨(some 4), .op (.mv (.const (Value.string ⟨#[]⟩))), none⟩,
    ⟨(some 5), .op (.mv (.tmp 16)), none⟩]) (.kill [7, 16]))
  .ret))
  (.ghost (.kill [7, 15]) .skip)))
  (.seq (.post (.draw [⟨0, ⟨(some 17), .op (.mv (.tmp 0)), none⟩, []⟩,
    ⟨1, ⟨(some 18), .op (.mv (.tmp 1)), none⟩, []⟩,
    ⟨2, ⟨(some 19), .op (.slcStr (.tmp 17) none (some (.tmp 18))), none⟩, []⟩,
    ⟨3, ⟨(some 20), .op (.mv (.tmp 0)), none⟩, []⟩,
    ⟨4, ⟨(some 21), .op (.mv (.tmp 6)), none⟩, []⟩,
    ⟨5, ⟨(some 22), .op (.bin .add (.tmp 21) (.const (Value.int .i64 1))), none⟩, []⟩,
    ⟨6, ⟨(some 23), .op (.slcStr (.tmp 20) (some (.tmp 22)) none), none⟩, []⟩,
    ⟨7, ⟨(some 24), .op (.bin .add (.tmp 19) (.tmp 23)), none⟩, []⟩,
    ⟨8, ⟨(some 4), .op (.mv (.tmp 24)), none⟩, []⟩,
    ⟨9, ⟨(some 5), .op (.mv (.const (Value.int .i64 0))), none⟩, []⟩]
    [0, 0, 3, 0, 0, 16, 56, 127, 255, 511]) (.kill [0, 1, 6, 17, 18, 19, 20, 21, 22, 23, 24]))
  .ret))))
theorem cf_spec_CutMatched : chkFn Try.prog i_spec_CutMatched ac_spec_CutMatched [.tmp 4, .tmp 5] 25 = true := by decide +kernel
def fa_spec_CutMatched : FnA := ⟨ac_spec_CutMatched, [.tmp 4, .tmp 5], 25, false, true⟩

/-- The checked code of spec l06Made. -/
def ac_spec_l06Made : AC := (.seq (.post (.reg [⟨(some 4), .op (.mv (.const (Value.string ⟨#[]⟩))), none⟩,
    ⟨(some 5), .op (.mv (.const (Value.int .i64 0))), none⟩]) (.kill [4, 5]))
  (.seq (.post (.reg [⟨(some 8), .op (.mv (.tmp 0)), none⟩,
    ⟨(some 9), .op (.len true (.tmp 8)), none⟩,
    ⟨(some 6), .op (.mv (.tmp 9)), none⟩]) (.kill [8, 9]))
  (.seq (.seq (.post (.reg [⟨(some 10), .op (.mv (.tmp 1)), none⟩,
    ⟨(some 11), .op (.nilc (.tmp 10)), none⟩,
    ⟨(some 12), .op (.faddr (.tmp 11) 0), none⟩,
    ⟨(some 13), .op (.load 1 false (.tmp 12)), none⟩]) (.kill [10, 11, 12]))
  (.block 0 (.seq (.post (.reg [⟨(some 15), .op (.bin .eql (.tmp 13) (.const (Value.int .i64 1))), none⟩,
    ⟨(some 14), .op (.mv (.tmp 15)), none⟩]) (.kill [15]))
  (.cond (.tmp 14) (.ghost (.kill [6, 13, 14]) (.seq (.post (.draw [⟨0, ⟨(some 16), .op (.mv (.tmp 0)), none⟩, []⟩,
    ⟨1, ⟨(some 17), .op (.mv (.tmp 1)), none⟩, []⟩,
    ⟨2, ⟨(some 18), .op (.nilc (.tmp 17)), none⟩, []⟩,
    ⟨3, ⟨(some 19), .op (.faddr (.tmp 18) 1), none⟩, []⟩,
    ⟨4, ⟨(some 20), .op (.load 1 false (.tmp 19)), none⟩, []⟩,
    ⟨5, ⟨(some 21), .op (.mv (.tmp 1)), none⟩, []⟩,
    ⟨6, ⟨(some 22), .op (.nilc (.tmp 21)), none⟩, []⟩,
    ⟨7, ⟨(some 23), .op (.faddr (.tmp 22) 3), none⟩, []⟩,
    ⟨8, ⟨(some 24), .op (.load 1 false (.tmp 23)), none⟩, []⟩,
    ⟨9, ⟨(some 25), .call (.func i_spec_PutAt) [(.tmp 16), (.tmp 20), (.tmp 24)], none⟩, []⟩,
    ⟨10, ⟨(some 26), .op (.ext (.tmp 25) 0), none⟩, []⟩,
    ⟨11, ⟨(some 27), .op (.ext (.tmp 25) 1), none⟩, []⟩,
    ⟨12, ⟨(some 4), .op (.mv (.tmp 26)), none⟩, []⟩,
    ⟨13, ⟨(some 5), .op (.mv (.tmp 27)), none⟩, []⟩]
    [0, 0, 2, 6, 14, 0, 32, 96, 224, 511, 1023, 1023, 4095, 8191]) (.kill [0, 1, 16, 17, 18, 19, 20, 21, 22, 23, 24, 25, 26, 27]))
  .ret))
  (.ghost (.kill [14]) (.seq (.post (.reg [⟨(some 29), .op (.bin .eql (.tmp 13) (.const (Value.int .i64 2))), none⟩,
    ⟨(some 28), .op (.mv (.tmp 29)), none⟩]) (.kill [29]))
  (.cond (.tmp 28) (.ghost (.kill [6, 13, 28]) (.seq (.post (.reg [⟨(some 30), .op (.mv (.tmp 0)), none⟩,
    ⟨(some 31), .op (.mv (.tmp 1)), none⟩,
    ⟨(some 32), .op (.nilc (.tmp 31)), none⟩,
    ⟨(some 33), .op (.faddr (.tmp 32) 1), none⟩,
    ⟨(some 34), .op (.load 1 false (.tmp 33)), none⟩,
    ⟨(some 35), .call (.func i_spec_CutMatched) [(.tmp 30), (.tmp 34)], none⟩,
    ⟨(some 36), .op (.ext (.tmp 35) 0), none⟩,
    ⟨(some 37), .op (.ext (.tmp 35) 1), none⟩,
    ⟨(some 4), .op (.mv (.tmp 36)), none⟩,
    ⟨(some 5), .op (.mv (.tmp 37)), none⟩]) (.kill [0, 1, 30, 31, 32, 33, 34, 35, 36, 37]))
  .ret))
  (.ghost (.kill [28]) (.seq (.post (.reg [⟨(some 39), .op (.bin .eql (.tmp 13) (.const (Value.int .i64 4))), none⟩,
    ⟨(some 38), .op (.mv (.tmp 39)), none⟩]) (.kill [13, 39]))
  (.cond (.tmp 38) (.ghost (.kill [38]) (.seq (.seq (.post (.draw [⟨0, ⟨(some 40), .op (.mv (.tmp 1)), none⟩, []⟩,
    ⟨1, ⟨(some 41), .op (.nilc (.tmp 40)), none⟩, []⟩,
    ⟨2, ⟨(some 42), .op (.faddr (.tmp 41) 1), none⟩, []⟩,
    ⟨3, ⟨(some 43), .op (.load 1 false (.tmp 42)), none⟩, []⟩,
    ⟨4, ⟨(some 44), .op (.mv (.tmp 6)), none⟩, []⟩,
    ⟨5, ⟨(some 45), .op (.bin .gtr (.tmp 43) (.tmp 44)), none⟩, []⟩,
    ⟨6, ⟨(some 46), .op (.mv (.tmp 45)), none⟩, []⟩,
    ⟨7, ⟨(some 47), .op (.mv (.tmp 1)), some (46, false)⟩, []⟩,
    ⟨8, ⟨(some 48), .op (.nilc (.tmp 47)), some (46, false)⟩, []⟩,
    ⟨9, ⟨(some 49), .op (.faddr (.tmp 48) 2), some (46, false)⟩, []⟩,
    ⟨10, ⟨(some 50), .op (.load 1 false (.tmp 49)), some (46, false)⟩, []⟩,
    ⟨11, ⟨(some 51), .op (.mv (.tmp 6)), some (46, false)⟩, []⟩,
    ⟨12, ⟨(some 52), .op (.bin .gtr (.tmp 50) (.tmp 51)), some (46, false)⟩, []⟩,
    ⟨13, ⟨(some 53), .op (.pick (.tmp 46) (.const (Value.bool true)) (.tmp 52)), none⟩, []⟩,
    ⟨14, ⟨(some 54), .op (.mv (.tmp 53)), none⟩, []⟩,
    ⟨15, ⟨(some 55), .op (.mv (.tmp 1)), some (54, false)⟩, []⟩,
    ⟨16, ⟨(some 56), .op (.nilc (.tmp 55)), some (54, false)⟩, []⟩,
    ⟨17, ⟨(some 57), .op (.faddr (.tmp 56) 1), some (54, false)⟩, []⟩,
    ⟨18, ⟨(some 58), .op (.load 1 false (.tmp 57)), some (54, false)⟩, []⟩,
    ⟨19, ⟨(some 59), .op (.mv (.tmp 1)), some (54, false)⟩, []⟩,
    ⟨20, ⟨(some 60), .op (.nilc (.tmp 59)), some (54, false)⟩, []⟩,
    ⟨21, ⟨(some 61), .op (.faddr (.tmp 60) 2), some (54, false)⟩, []⟩,
    ⟨22, ⟨(some 62), .op (.load 1 false (.tmp 61)), some (54, false)⟩, []⟩,
    ⟨23, ⟨(some 63), .op (.bin .gtr (.tmp 58) (.tmp 62)), some (54, false)⟩, []⟩,
    ⟨24, ⟨(some 64), .op (.pick (.tmp 54) (.const (Value.bool true)) (.tmp 63)), none⟩, []⟩]
    [0, 1, 3, 7, 0, 31, 63, 127, 255, 511, 1023, 127, 4095, 8191, 16383, 32767, 65535, 131071, 262143, 32767, 557055, 1605631, 3702783, 8388607, 16777215]) (.kill [40, 41, 42, 43, 44, 45, 46, 47, 48, 49, 50, 51, 52, 53, 54, 55, 56, 57, 58, 59, 60, 61, 62, 63]))
  (.cond (.tmp 64) (.ghost (.kill [0, 1, 6, 64]) (.seq (.reg [⟨(some 4), .op (.mv (.const (Value.string ⟨#[]⟩))), none⟩,
    ⟨(some 5), .op (.mv (.const (Value.int .i64 2))), none⟩])
  .ret))
  (.ghost (.kill [64]) .skip)))
  (.seq (.seq (.post (.draw [⟨0, ⟨(some 65), .op (.mv (.tmp 0)), none⟩, []⟩,
    ⟨1, ⟨(some 66), .op (.mv (.tmp 1)), none⟩, []⟩,
    ⟨2, ⟨(some 67), .op (.nilc (.tmp 66)), none⟩, []⟩,
    ⟨3, ⟨(some 68), .op (.faddr (.tmp 67) 1), none⟩, []⟩,
    ⟨4, ⟨(some 69), .op (.load 1 false (.tmp 68)), none⟩, []⟩,
    ⟨5, ⟨(some 70), .op (.mv (.tmp 1)), none⟩, []⟩,
    ⟨6, ⟨(some 71), .op (.nilc (.tmp 70)), none⟩, []⟩,
    ⟨7, ⟨(some 72), .op (.faddr (.tmp 71) 2), none⟩, []⟩,
    ⟨8, ⟨(some 73), .op (.load 1 false (.tmp 72)), none⟩, []⟩,
    ⟨9, ⟨(some 74), .op (.slcStr (.tmp 65) (some (.tmp 69)) (some (.tmp 73))), none⟩, []⟩,
    ⟨10, ⟨(some 75), .call (.func i_spec_l01Matched) [(.tmp 74)], none⟩, []⟩,
    ⟨11, ⟨(some 76), .op (.un .not (.tmp 75)), none⟩, []⟩]
    [0, 0, 2, 6, 14, 0, 32, 96, 224, 511, 1023, 2047]) (.kill [65, 66, 67, 68, 69, 70, 71, 72, 73, 74, 75]))
  (.cond (.tmp 76) (.ghost (.kill [0, 1, 6, 76]) (.seq (.reg [⟨(some 4), .op (.mv (.const (Value.string ⟨#[]⟩))), none⟩,
    ⟨(some 5), .op (.mv (.const (Value.int .i64 4))), none⟩])
  .ret))
  (.ghost (.kill [76]) .skip)))
  (.seq (.seq (.post (.reg [⟨(some 77), .op (.mv (.tmp 6)), none⟩,
    ⟨(some 78), .op (.bin .add (.tmp 77) (.const (Value.int .i64 2))), none⟩,
    ⟨(some 79), .op (.bin .gtr (.tmp 78) (.const (Value.int .i64 60))), none⟩]) (.kill [6, 77, 78]))
  (.cond (.tmp 79) (.ghost (.kill [0, 1, 79]) (.seq (.reg [⟨(some 4), .op (.mv (.const (Value.string ⟨#[]⟩))), none⟩,
    ⟨(some 5), .op (.mv (.const (Value.int .i64 3))), none⟩])
  .ret))
  (.ghost (.kill [79]) .skip)))
  (.seq (.post (.draw [⟨0, ⟨(some 80), .op (.mv (.tmp 0)), none⟩, []⟩,
    ⟨1, ⟨(some 81), .op (.mv (.tmp 1)), none⟩, []⟩,
    ⟨2, ⟨(some 82), .op (.nilc (.tmp 81)), none⟩, []⟩,
    ⟨3, ⟨(some 83), .op (.faddr (.tmp 82) 1), none⟩, []⟩,
    ⟨4, ⟨(some 84), .op (.load 1 false (.tmp 83)), none⟩, []⟩,
    ⟨5, ⟨(some 85), .op (.slcStr (.tmp 80) none (some (.tmp 84))), none⟩, []⟩,
    ⟨6, ⟨(some 86), .op (.mv (.tmp 1)), none⟩, []⟩,
    ⟨7, ⟨(some 87), .op (.nilc (.tmp 86)), none⟩, []⟩,
    ⟨8, ⟨(some 88), .op (.faddr (.tmp 87) 3), none⟩, []⟩,
    ⟨9, ⟨(some 89), .op (.load 1 false (.tmp 88)), none⟩, []⟩,
    ⟨10, ⟨(some 90), .op (.slcStr (.tmp 89) none (some (.const (Value.int .i64 1)))), none⟩, []⟩,
    ⟨11, ⟨(some 91), .op (.bin .add (.tmp 85) (.tmp 90)), none⟩, []⟩,
    ⟨12, ⟨(some 92), .op (.mv (.tmp 0)), none⟩, []⟩,
    ⟨13, ⟨(some 93), .op (.mv (.tmp 1)), none⟩, []⟩,
    ⟨14, ⟨(some 94), .op (.nilc (.tmp 93)), none⟩, []⟩,
    ⟨15, ⟨(some 95), .op (.faddr (.tmp 94) 1), none⟩, []⟩,
    ⟨16, ⟨(some 96), .op (.load 1 false (.tmp 95)), none⟩, []⟩,
    ⟨17, ⟨(some 97), .op (.mv (.tmp 1)), none⟩, []⟩,
    ⟨18, ⟨(some 98), .op (.nilc (.tmp 97)), none⟩, []⟩,
    ⟨19, ⟨(some 99), .op (.faddr (.tmp 98) 2), none⟩, []⟩,
    ⟨20, ⟨(some 100), .op (.load 1 false (.tmp 99)), none⟩, []⟩,
    ⟨21, ⟨(some 101), .op (.slcStr (.tmp 92) (some (.tmp 96)) (some (.tmp 100))), none⟩, []⟩,
    ⟨22, ⟨(some 102), .op (.bin .add (.tmp 91) (.tmp 101)), none⟩, []⟩,
    ⟨23, ⟨(some 103), .op (.mv (.tmp 1)), none⟩, []⟩,
    ⟨24, ⟨(some 104), .op (.nilc (.tmp 103)), none⟩, []⟩,
    ⟨25, ⟨(some 105), .op (.faddr (.tmp 104) 3), none⟩, []⟩,
    ⟨26, ⟨(some 106), .op (.load 1 false (.tmp 105)), none⟩, []⟩,
    ⟨27, ⟨(some 107), .op (.slcStr (.tmp 106) (some (.const (Value.int .i64 1))) none), none⟩, []⟩,
    ⟨28, ⟨(some 108), .op (.bin .add (.tmp 102) (.tmp 107)), none⟩, []⟩,
    ⟨29, ⟨(some 109), .op (.mv (.tmp 0)), none⟩, []⟩,
    ⟨30, ⟨(some 110), .op (.mv (.tmp 1)), none⟩, []⟩,
    ⟨31, ⟨(some 111), .op (.nilc (.tmp 110)), none⟩, []⟩,
    ⟨32, ⟨(some 112), .op (.faddr (.tmp 111) 2), none⟩, []⟩,
    ⟨33, ⟨(some 113), .op (.load 1 false (.tmp 112)), none⟩, []⟩,
    ⟨34, ⟨(some 114), .op (.slcStr (.tmp 109) (some (.tmp 113)) none), none⟩, []⟩,
    ⟨35, ⟨(some 115), .op (.bin .add (.tmp 108) (.tmp 114)), none⟩, []⟩,
    ⟨36, ⟨(some 4), .op (.mv (.tmp 115)), none⟩, []⟩,
    ⟨37, ⟨(some 5), .op (.mv (.const (Value.int .i64 0))), none⟩, []⟩]
    [0, 0, 2, 6, 14, 31, 0, 64, 192, 448, 960, 2047, 0, 0, 8192, 24576, 57344, 0, 131072, 393216, 917504, 2093056, 4194303, 0, 8388608, 25165824, 58720256, 125829120, 268435455, 0, 0, 1073741824, 3221225472, 7516192768, 16642998272, 34359738367, 68719476735, 137438953471]) (.kill [0, 1, 80, 81, 82, 83, 84, 85, 86, 87, 88, 89, 90, 91, 92, 93, 94, 95, 96, 97, 98, 99, 100, 101, 102, 103, 104, 105, 106, 107, 108, 109, 110, 111, 112, 113, 114, 115]))
  .ret)))))
  (.ghost (.kill [38]) .skip)))))))))))
  (.seq (.seq (.post (.reg [⟨(some 116), .op (.mv (.tmp 1)), none⟩,
    ⟨(some 117), .op (.nilc (.tmp 116)), none⟩,
    ⟨(some 118), .op (.faddr (.tmp 117) 1), none⟩,
    ⟨(some 119), .op (.load 1 false (.tmp 118)), none⟩,
    ⟨(some 120), .op (.mv (.tmp 6)), none⟩,
    ⟨(some 121), .op (.bin .geq (.tmp 119) (.tmp 120)), none⟩]) (.kill [6, 116, 117, 118, 119, 120]))
  (.cond (.tmp 121) (.ghost (.kill [0, 1, 121]) (.seq (.reg [⟨(some 4), .op (.mv (.const (Value.string ⟨#[]⟩))), none⟩,
    ⟨(some 5), .op (.mv (.const (Value.int .i64 2))), none⟩])
  .ret))
  (.ghost (.kill [121]) .skip)))
  (.seq (.post (.draw [⟨0, ⟨(some 122), .op (.mv (.tmp 0)), none⟩, []⟩,
    ⟨2, ⟨(some 124), .op (.mv (.tmp 1)), none⟩, []⟩,
    ⟨3, ⟨(some 125), .op (.nilc (.tmp 124)), none⟩, []⟩,
    ⟨4, ⟨(some 126), .op (.faddr (.tmp 125) 1), none⟩, []⟩,
    ⟨5, ⟨(some 127), .op (.load 1 false (.tmp 126)), none⟩, []⟩,
    ⟨1, ⟨(some 123), .call (.func i_spec_l01Partners) [(.tmp 122)], none⟩, [5]⟩,
    ⟨6, ⟨(some 128), .op (.iaddrS (.tmp 123) (.tmp 127) 1), none⟩, []⟩,
    ⟨7, ⟨(some 129), .op (.load 1 false (.tmp 128)), none⟩, []⟩,
    ⟨8, ⟨(some 7), .op (.mv (.tmp 129)), none⟩, []⟩]
    [0, 1, 0, 4, 12, 28, 63, 127, 255]) (.kill [122, 123, 124, 125, 126, 127, 128, 129]))
  (.seq (.seq (.post (.reg [⟨(some 130), .op (.mv (.tmp 0)), none⟩,
    ⟨(some 131), .op (.mv (.tmp 1)), none⟩,
    ⟨(some 132), .op (.nilc (.tmp 131)), none⟩,
    ⟨(some 133), .op (.faddr (.tmp 132) 1), none⟩,
    ⟨(some 134), .op (.load 1 false (.tmp 133)), none⟩,
    ⟨(some 135), .op (.idxStr (.tmp 130) (.tmp 134)), none⟩,
    ⟨(some 136), .call (.func i_spec_l01Call) [(.tmp 135)], none⟩,
    ⟨(some 137), .op (.un .not (.tmp 136)), none⟩,
    ⟨(some 138), .op (.mv (.tmp 137)), none⟩,
    ⟨(some 139), .op (.mv (.tmp 7)), some (138, false)⟩,
    ⟨(some 140), .op (.bin .lss (.tmp 139) (.const (Value.int .i64 0))), some (138, false)⟩,
    ⟨(some 141), .op (.pick (.tmp 138) (.const (Value.bool true)) (.tmp 140)), none⟩]) (.kill [130, 131, 132, 133, 134, 135, 136, 137, 138, 139, 140]))
  (.cond (.tmp 141) (.ghost (.kill [0, 1, 7, 141]) (.seq (.reg [⟨(some 4), .op (.mv (.const (Value.string ⟨#[]⟩))), none⟩,
    ⟨(some 5), .op (.mv (.const (Value.int .i64 4))), none⟩])
  .ret))
  (.ghost (.kill [141]) .skip)))
  (.seq (.seq (.post (.reg [⟨(some 142), .op (.mv (.tmp 1)), none⟩,
    ⟨(some 143), .op (.nilc (.tmp 142)), none⟩,
    ⟨(some 144), .op (.faddr (.tmp 143) 0), none⟩,
    ⟨(some 145), .op (.load 1 false (.tmp 144)), none⟩,
    ⟨(some 146), .op (.bin .eql (.tmp 145) (.const (Value.int .i64 3))), none⟩]) (.kill [142, 143, 144, 145]))
  (.cond (.tmp 146) (.ghost (.kill [146]) (.seq (.post (.draw [⟨0, ⟨(some 147), .op (.mv (.tmp 0)), none⟩, []⟩,
    ⟨1, ⟨(some 148), .op (.mv (.tmp 1)), none⟩, []⟩,
    ⟨2, ⟨(some 149), .op (.nilc (.tmp 148)), none⟩, []⟩,
    ⟨3, ⟨(some 150), .op (.faddr (.tmp 149) 1), none⟩, []⟩,
    ⟨4, ⟨(some 151), .op (.load 1 false (.tmp 150)), none⟩, []⟩,
    ⟨5, ⟨(some 152), .op (.slcStr (.tmp 147) none (some (.tmp 151))), none⟩, []⟩,
    ⟨6, ⟨(some 153), .op (.mv (.tmp 0)), none⟩, []⟩,
    ⟨7, ⟨(some 154), .op (.mv (.tmp 1)), none⟩, []⟩,
    ⟨8, ⟨(some 155), .op (.nilc (.tmp 154)), none⟩, []⟩,
    ⟨9, ⟨(some 156), .op (.faddr (.tmp 155) 1), none⟩, []⟩,
    ⟨10, ⟨(some 157), .op (.load 1 false (.tmp 156)), none⟩, []⟩,
    ⟨11, ⟨(some 158), .op (.bin .add (.tmp 157) (.const (Value.int .i64 1))), none⟩, []⟩,
    ⟨12, ⟨(some 159), .op (.mv (.tmp 7)), none⟩, []⟩,
    ⟨13, ⟨(some 160), .op (.slcStr (.tmp 153) (some (.tmp 158)) (some (.tmp 159))), none⟩, []⟩,
    ⟨14, ⟨(some 161), .op (.bin .add (.tmp 152) (.tmp 160)), none⟩, []⟩,
    ⟨15, ⟨(some 162), .op (.mv (.tmp 0)), none⟩, []⟩,
    ⟨16, ⟨(some 163), .op (.mv (.tmp 7)), none⟩, []⟩,
    ⟨17, ⟨(some 164), .op (.bin .add (.tmp 163) (.const (Value.int .i64 1))), none⟩, []⟩,
    ⟨18, ⟨(some 165), .op (.slcStr (.tmp 162) (some (.tmp 164)) none), none⟩, []⟩,
    ⟨19, ⟨(some 166), .op (.bin .add (.tmp 161) (.tmp 165)), none⟩, []⟩,
    ⟨20, ⟨(some 4), .op (.mv (.tmp 166)), none⟩, []⟩,
    ⟨21, ⟨(some 5), .op (.mv (.const (Value.int .i64 0))), none⟩, []⟩]
    [0, 0, 2, 6, 14, 31, 0, 0, 128, 384, 896, 1920, 0, 8128, 16383, 0, 0, 65536, 229376, 524287, 1048575, 2097151]) (.kill [0, 1, 7, 147, 148, 149, 150, 151, 152, 153, 154, 155, 156, 157, 158, 159, 160, 161, 162, 163, 164, 165, 166]))
  .ret))
  (.ghost (.kill [146]) .skip)))
  (.seq (.post (.draw [⟨0, ⟨(some 167), .op (.mv (.tmp 0)), none⟩, []⟩,
    ⟨1, ⟨(some 168), .op (.mv (.tmp 1)), none⟩, []⟩,
    ⟨2, ⟨(some 169), .op (.nilc (.tmp 168)), none⟩, []⟩,
    ⟨3, ⟨(some 170), .op (.faddr (.tmp 169) 1), none⟩, []⟩,
    ⟨4, ⟨(some 171), .op (.load 1 false (.tmp 170)), none⟩, []⟩,
    ⟨5, ⟨(some 172), .op (.slcStr (.tmp 167) none (some (.tmp 171))), none⟩, []⟩,
    ⟨6, ⟨(some 173), .op (.mv (.tmp 1)), none⟩, []⟩,
    ⟨7, ⟨(some 174), .op (.nilc (.tmp 173)), none⟩, []⟩,
    ⟨8, ⟨(some 175), .op (.faddr (.tmp 174) 3), none⟩, []⟩,
    ⟨9, ⟨(some 176), .op (.load 1 false (.tmp 175)), none⟩, []⟩,
    ⟨10, ⟨(some 177), .op (.slcStr (.tmp 176) none (some (.const (Value.int .i64 1)))), none⟩, []⟩,
    ⟨11, ⟨(some 178), .op (.bin .add (.tmp 172) (.tmp 177)), none⟩, []⟩,
    ⟨12, ⟨(some 179), .op (.mv (.tmp 0)), none⟩, []⟩,
    ⟨13, ⟨(some 180), .op (.mv (.tmp 1)), none⟩, []⟩,
    ⟨14, ⟨(some 181), .op (.nilc (.tmp 180)), none⟩, []⟩,
    ⟨15, ⟨(some 182), .op (.faddr (.tmp 181) 1), none⟩, []⟩,
    ⟨16, ⟨(some 183), .op (.load 1 false (.tmp 182)), none⟩, []⟩,
    ⟨17, ⟨(some 184), .op (.bin .add (.tmp 183) (.const (Value.int .i64 1))), none⟩, []⟩,
    ⟨18, ⟨(some 185), .op (.mv (.tmp 7)), none⟩, []⟩,
    ⟨19, ⟨(some 186), .op (.slcStr (.tmp 179) (some (.tmp 184)) (some (.tmp 185))), none⟩, []⟩,
    ⟨20, ⟨(some 187), .op (.bin .add (.tmp 178) (.tmp 186)), none⟩, []⟩,
    ⟨21, ⟨(some 188), .op (.mv (.tmp 1)), none⟩, []⟩,
    ⟨22, ⟨(some 189), .op (.nilc (.tmp 188)), none⟩, []⟩,
    ⟨23, ⟨(some 190), .op (.faddr (.tmp 189) 3), none⟩, []⟩,
    ⟨24, ⟨(some 191), .op (.load 1 false (.tmp 190)), none⟩, []⟩,
    ⟨25, ⟨(some 192), .op (.slcStr (.tmp 191) (some (.const (Value.int .i64 1))) none), none⟩, []⟩,
    ⟨26, ⟨(some 193), .op (.bin .add (.tmp 187) (.tmp 192)), none⟩, []⟩,
    ⟨27, ⟨(some 194), .op (.mv (.tmp 0)), none⟩, []⟩,
    ⟨28, ⟨(some 195), .op (.mv (.tmp 7)), none⟩, []⟩,
    ⟨29, ⟨(some 196), .op (.bin .add (.tmp 195) (.const (Value.int .i64 1))), none⟩, []⟩,
    ⟨30, ⟨(some 197), .op (.slcStr (.tmp 194) (some (.tmp 196)) none), none⟩, []⟩,
    ⟨31, ⟨(some 198), .op (.bin .add (.tmp 193) (.tmp 197)), none⟩, []⟩,
    ⟨32, ⟨(some 4), .op (.mv (.tmp 198)), none⟩, []⟩,
    ⟨33, ⟨(some 5), .op (.mv (.const (Value.int .i64 0))), none⟩, []⟩]
    [0, 0, 2, 6, 14, 31, 0, 64, 192, 448, 960, 2047, 0, 0, 8192, 24576, 57344, 122880, 0, 520192, 1048575, 0, 2097152, 6291456, 14680064, 31457280, 67108863, 0, 0, 268435456, 939524096, 2147483647, 4294967295, 8589934591]) (.kill [0, 1, 7, 167, 168, 169, 170, 171, 172, 173, 174, 175, 176, 177, 178, 179, 180, 181, 182, 183, 184, 185, 186, 187, 188, 189, 190, 191, 192, 193, 194, 195, 196, 197, 198]))
  .ret))))))))
theorem cf_spec_l06Made : chkFn Try.prog i_spec_l06Made ac_spec_l06Made [.tmp 4, .tmp 5] 199 = true := by decide +kernel
def fa_spec_l06Made : FnA := ⟨ac_spec_l06Made, [.tmp 4, .tmp 5], 199, false, true⟩

/-- The checked code of spec EditTree. -/
def ac_spec_EditTree : AC := (.seq (.post (.reg [⟨(some 3), .op (.box true (.tmp 1)), none⟩,
    ⟨(some 4), .op (.mv (.const (Value.string ⟨#[]⟩))), none⟩,
    ⟨(some 5), .op (.mv (.const (Value.int .i64 0))), none⟩]) (.kill [1, 4, 5]))
  (.seq (.seq (.post (.reg [⟨(some 7), .op (.mv (.tmp 0)), none⟩,
    ⟨(some 8), .call (.func i_spec_l06Given) [(.tmp 7), (.tmp 3)], none⟩,
    ⟨(some 6), .op (.mv (.tmp 8)), none⟩]) (.kill [7, 8]))
  (.seq (.post (.reg [⟨(some 9), .op (.mv (.tmp 6)), none⟩,
    ⟨(some 10), .op (.bin .neq (.tmp 9) (.const (Value.int .i64 0))), none⟩]) (.kill [9]))
  (.cond (.tmp 10) (.ghost (.kill [0, 3, 10]) (.seq (.post (.reg [⟨(some 11), .op (.mv (.tmp 6)), none⟩,
    ⟨(some 4), .op (.mv (.const (Value.string ⟨#[]⟩))), none⟩,
    ⟨(some 5), .op (.mv (.tmp 11)), none⟩]) (.kill [6, 11]))
  .ret))
  (.ghost (.kill [6, 10]) .skip))))
  (.seq (.post (.reg [⟨(some 12), .op (.mv (.tmp 0)), none⟩,
    ⟨(some 13), .call (.func i_spec_l06Made) [(.tmp 12), (.tmp 3)], none⟩,
    ⟨(some 14), .op (.ext (.tmp 13) 0), none⟩,
    ⟨(some 15), .op (.ext (.tmp 13) 1), none⟩,
    ⟨(some 4), .op (.mv (.tmp 14)), none⟩,
    ⟨(some 5), .op (.mv (.tmp 15)), none⟩]) (.kill [0, 3, 12, 13, 14, 15]))
  .ret)))
theorem cf_spec_EditTree : chkFn Try.prog i_spec_EditTree ac_spec_EditTree [.tmp 4, .tmp 5] 16 = true := by decide +kernel
def fa_spec_EditTree : FnA := ⟨ac_spec_EditTree, [.tmp 4, .tmp 5], 16, false, true⟩

/-- The checked code of impl orLimit. -/
def ac_impl_orLimit : AC := (.seq (.post (.reg [⟨(some 2), .op (.mv (.const (Value.string ⟨#[]⟩))), none⟩,
    ⟨(some 3), .op (.mv (.const (Value.int .i64 0))), none⟩]) (.kill [2, 3]))
  (.seq (.seq (.post (.reg [⟨(some 4), .op (.mv (.tmp 0)), none⟩,
    ⟨(some 5), .call (.func i_impl_ValidWord) [(.tmp 4)], none⟩,
    ⟨(some 6), .op (.un .not (.tmp 5)), none⟩]) (.kill [4, 5]))
  (.cond (.tmp 6) (.ghost (.kill [0, 6]) (.seq (.reg [⟨(some 2), .op (.mv (.const (Value.string ⟨#[]⟩))), none⟩,
    ⟨(some 3), .op (.mv (.const (Value.int .i64 3))), none⟩])
  .ret))
  (.ghost (.kill [6]) .skip)))
  (.seq (.post (.reg [⟨(some 7), .op (.mv (.tmp 0)), none⟩,
    ⟨(some 2), .op (.mv (.tmp 7)), none⟩,
    ⟨(some 3), .op (.mv (.const (Value.int .i64 0))), none⟩]) (.kill [0, 7]))
  .ret)))
theorem cf_impl_orLimit : chkFn Try.prog i_impl_orLimit ac_impl_orLimit [.tmp 2, .tmp 3] 8 = true := by decide +kernel
def fa_impl_orLimit : FnA := ⟨ac_impl_orLimit, [.tmp 2, .tmp 3], 8, false, true⟩

end Go.Proofs.Ytpjadhjjeafffaa
