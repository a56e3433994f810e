/- What is read at the laws' types is typed data; printed by a program (opn.py). -/
import Derived.Test.YtegjfjckijmgcaaDat
import Derived.Test.YtegjfjckijmgcaaOpn
import Derived.Test.YtegjfjckijmgcaaRows
set_option linter.unusedVariables false
set_option maxRecDepth 100000
namespace Go.Proofs.Ytegjfjckijmgcaa
open Aw Go.ChangeShapes

theorem opn_String : Opn Try.prog 9 ByteArray := opn_str Try.underlying9
end Go.Proofs.Ytegjfjckijmgcaa
