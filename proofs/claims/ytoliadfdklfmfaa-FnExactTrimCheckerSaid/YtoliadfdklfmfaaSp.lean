/- What is told of copies; printed by a program (gen2.py). -/
import Derived.Test.YtoliadfdklfmfaaAw33
import Derived.Test.YtoliadfdklfmfaaG0
import Derived.Test.YtoliadfdklfmfaaG1
import Derived.Test.YtoliadfdklfmfaaAwS
import Derived.Test.YtoliadfdklfmfaaSrt
set_option linter.unusedSimpArgs false
set_option linter.unusedVariables false
set_option maxRecDepth 100000
namespace Go.Proofs.Ytoliadfdklfmfaa
open Aw
def fs_slices_Sort_L_int64 : FnA := ⟨.skip, [], 1, true, false, [], .any, some spSort⟩
theorem ok_slices_Sort_L_int64 : FnOk Try.prog i_slices_Sort_L_int64 fs_slices_Sort_L_int64 := spSort_ok (by decide +kernel) sorts_slices_Sort_L_int64
end Go.Proofs.Ytoliadfdklfmfaa
