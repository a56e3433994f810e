/-
  No cell of these rows narrows 'for every input' (looked for: loops, veiled, ifaces, maps, wideKeys, modest, calm, conditions, laid).
  DERIVED. THE GIVEN ROWS OF THIS SEAT. 12 by the template 'for every input the law returns true; each argument reads behind the call as it read before'; 0 by the template 'total and deterministic' (their statements: YtegjfjckijmgcaaTotals.lean).
  GIVEN WITH THE SEED: the statements are not yours to turn. If you find one false, say at which input.
  Laid BY PROGRAM, IN A SANDBOX (cutbox-rows.mjs): the forced cells as the released guide's own fill.sh prints them over the translation 75df618f89be632e… (all of the seat's roots in one cut). By AI agents, Wed Nov 11 2026. No macro, syntax, notation, axiom, sorry.
-/
import Derived.Test.YtegjfjckijmgcaaChecked
import GoSem.Claim
import GoSem.ClaimJoined
import GoSem.ClaimMapViews
import Derived.JoinedTies
import Derived.KernelRfl
namespace Go.Proofs.Ytegjfjckijmgcaa
/- THE CELL 'sum', in the pinned program and in every row, IS THE sha256 OF THE DUMP (.gsa) THAT YtegjfjckijmgcaaProg.lean LOADS. Nothing in Lean hashes anything: it is a label: what it is worth is what the hold of that sum in a sandbox is worth. -/
noncomputable def Try.pinned : Pinned := { name := "ytegjfjckijmgcaa", sum := "75df618f89be632e9d6ba1df2cda7cc2cf8dff43068dd3b16384c7bad93e8fce", checked := Try.checked }
namespace Rows
def none {H : Type} : Left H := { results := [], args := [] }

/-- 'laws.FnExactTellsApart': WHATEVER THE INPUT: true; the input reads as it did. -/
def fnExactTellsApartSpec : ChangeSpec := { name := "fnExactTellsApart", fn := fun _ => fun
  | [d1, d2, d3, d4] => { results := [.lit (.bool true)], args := [d1, d2, d3, d4] }
  | _ => none }
def fnExactTellsApartRow : OpenClaim := { program := "ytegjfjckijmgcaa", sum := "75df618f89be632e9d6ba1df2cda7cc2cf8dff43068dd3b16384c7bad93e8fce", func := "loop.example/g01145/laws.FnExactTellsApart", spec := "fnExactTellsApart", inPlace := ["internal/bytealg.IndexByteString"], unfollowed := true, recurses := true, apart := false }
def FnExactTellsApartSaid : Prop := fnExactTellsApartRow.holds Try.pinned (OpenSpec.ofChange fnExactTellsApartSpec)

/-- ITS FALSE NEIGHBOUR: 'it returns false'. Refute it at one input. -/
def fnExactTellsApartWrong : ChangeSpec := { name := "fnExactTellsApart", fn := fun _ => fun
  | [d1, d2, d3, d4] => { results := [.lit (.bool false)], args := [d1, d2, d3, d4] }
  | _ => none }
def FnExactTellsApartWrongFalsely : Prop := fnExactTellsApartRow.holds Try.pinned (OpenSpec.ofChange fnExactTellsApartWrong)

/-- 'laws.FnExactRunOf': WHATEVER THE INPUT: true; the input reads as it did. -/
def fnExactRunOfSpec : ChangeSpec := { name := "fnExactRunOf", fn := fun _ => fun
  | [d1, d2] => { results := [.lit (.bool true)], args := [d1, d2] }
  | _ => none }
def fnExactRunOfRow : OpenClaim := { program := "ytegjfjckijmgcaa", sum := "75df618f89be632e9d6ba1df2cda7cc2cf8dff43068dd3b16384c7bad93e8fce", func := "loop.example/g01145/laws.FnExactRunOf", spec := "fnExactRunOf", inPlace := ["internal/bytealg.IndexByteString"], unfollowed := true, recurses := true, apart := false }
def FnExactRunOfSaid : Prop := fnExactRunOfRow.holds Try.pinned (OpenSpec.ofChange fnExactRunOfSpec)

/-- ITS FALSE NEIGHBOUR: 'it returns false'. Refute it at one input. -/
def fnExactRunOfWrong : ChangeSpec := { name := "fnExactRunOf", fn := fun _ => fun
  | [d1, d2] => { results := [.lit (.bool false)], args := [d1, d2] }
  | _ => none }
def FnExactRunOfWrongFalsely : Prop := fnExactRunOfRow.holds Try.pinned (OpenSpec.ofChange fnExactRunOfWrong)

/-- 'laws.FnExactStacksOf': WHATEVER THE INPUT: true; the input reads as it did. -/
def fnExactStacksOfSpec : ChangeSpec := { name := "fnExactStacksOf", fn := fun _ => fun
  | [d1, d2] => { results := [.lit (.bool true)], args := [d1, d2] }
  | _ => none }
def fnExactStacksOfRow : OpenClaim := { program := "ytegjfjckijmgcaa", sum := "75df618f89be632e9d6ba1df2cda7cc2cf8dff43068dd3b16384c7bad93e8fce", func := "loop.example/g01145/laws.FnExactStacksOf", spec := "fnExactStacksOf", inPlace := ["internal/bytealg.IndexByteString"], unfollowed := true, recurses := true, apart := false }
def FnExactStacksOfSaid : Prop := fnExactStacksOfRow.holds Try.pinned (OpenSpec.ofChange fnExactStacksOfSpec)

/-- ITS FALSE NEIGHBOUR: 'it returns false'. Refute it at one input. -/
def fnExactStacksOfWrong : ChangeSpec := { name := "fnExactStacksOf", fn := fun _ => fun
  | [d1, d2] => { results := [.lit (.bool false)], args := [d1, d2] }
  | _ => none }
def FnExactStacksOfWrongFalsely : Prop := fnExactStacksOfRow.holds Try.pinned (OpenSpec.ofChange fnExactStacksOfWrong)

/-- 'laws.FnExactGoOn': WHATEVER THE INPUT: true; the input reads as it did. -/
def fnExactGoOnSpec : ChangeSpec := { name := "fnExactGoOn", fn := fun _ => fun
  | [d1, d2, d3, d4] => { results := [.lit (.bool true)], args := [d1, d2, d3, d4] }
  | _ => none }
def fnExactGoOnRow : OpenClaim := { program := "ytegjfjckijmgcaa", sum := "75df618f89be632e9d6ba1df2cda7cc2cf8dff43068dd3b16384c7bad93e8fce", func := "loop.example/g01145/laws.FnExactGoOn", spec := "fnExactGoOn", inPlace := ["internal/bytealg.IndexByteString"], unfollowed := true, recurses := true, apart := false }
def FnExactGoOnSaid : Prop := fnExactGoOnRow.holds Try.pinned (OpenSpec.ofChange fnExactGoOnSpec)

/-- ITS FALSE NEIGHBOUR: 'it returns false'. Refute it at one input. -/
def fnExactGoOnWrong : ChangeSpec := { name := "fnExactGoOn", fn := fun _ => fun
  | [d1, d2, d3, d4] => { results := [.lit (.bool false)], args := [d1, d2, d3, d4] }
  | _ => none }
def FnExactGoOnWrongFalsely : Prop := fnExactGoOnRow.holds Try.pinned (OpenSpec.ofChange fnExactGoOnWrong)

/-- 'laws.FnExactChoicesAt': WHATEVER THE INPUT: true; the input reads as it did. -/
def fnExactChoicesAtSpec : ChangeSpec := { name := "fnExactChoicesAt", fn := fun _ => fun
  | [d1, d2] => { results := [.lit (.bool true)], args := [d1, d2] }
  | _ => none }
def fnExactChoicesAtRow : OpenClaim := { program := "ytegjfjckijmgcaa", sum := "75df618f89be632e9d6ba1df2cda7cc2cf8dff43068dd3b16384c7bad93e8fce", func := "loop.example/g01145/laws.FnExactChoicesAt", spec := "fnExactChoicesAt", unfollowed := true, recurses := true, apart := false }
def FnExactChoicesAtSaid : Prop := fnExactChoicesAtRow.holds Try.pinned (OpenSpec.ofChange fnExactChoicesAtSpec)

/-- ITS FALSE NEIGHBOUR: 'it returns false'. Refute it at one input. -/
def fnExactChoicesAtWrong : ChangeSpec := { name := "fnExactChoicesAt", fn := fun _ => fun
  | [d1, d2] => { results := [.lit (.bool false)], args := [d1, d2] }
  | _ => none }
def FnExactChoicesAtWrongFalsely : Prop := fnExactChoicesAtRow.holds Try.pinned (OpenSpec.ofChange fnExactChoicesAtWrong)

/-- 'laws.FnExactRunProgram': WHATEVER THE INPUT: true; the input reads as it did. -/
def fnExactRunProgramSpec : ChangeSpec := { name := "fnExactRunProgram", fn := fun _ => fun
  | [d1, d2] => { results := [.lit (.bool true)], args := [d1, d2] }
  | _ => none }
def fnExactRunProgramRow : OpenClaim := { program := "ytegjfjckijmgcaa", sum := "75df618f89be632e9d6ba1df2cda7cc2cf8dff43068dd3b16384c7bad93e8fce", func := "loop.example/g01145/laws.FnExactRunProgram", spec := "fnExactRunProgram", unfollowed := true, recurses := true, apart := false }
def FnExactRunProgramSaid : Prop := fnExactRunProgramRow.holds Try.pinned (OpenSpec.ofChange fnExactRunProgramSpec)

/-- ITS FALSE NEIGHBOUR: 'it returns false'. Refute it at one input. -/
def fnExactRunProgramWrong : ChangeSpec := { name := "fnExactRunProgram", fn := fun _ => fun
  | [d1, d2] => { results := [.lit (.bool false)], args := [d1, d2] }
  | _ => none }
def FnExactRunProgramWrongFalsely : Prop := fnExactRunProgramRow.holds Try.pinned (OpenSpec.ofChange fnExactRunProgramWrong)

/-- 'laws.FnExactRenameRewriter': WHATEVER THE INPUT: true; the input reads as it did. -/
def fnExactRenameRewriterSpec : ChangeSpec := { name := "fnExactRenameRewriter", fn := fun _ => fun
  | [d] => { results := [.lit (.bool true)], args := [d] }
  | _ => none }
def fnExactRenameRewriterRow : OpenClaim := { program := "ytegjfjckijmgcaa", sum := "75df618f89be632e9d6ba1df2cda7cc2cf8dff43068dd3b16384c7bad93e8fce", func := "loop.example/g01145/laws.FnExactRenameRewriter", spec := "fnExactRenameRewriter", inPlace := ["internal/bytealg.IndexByteString"], unfollowed := true, recurses := true, apart := false }
def FnExactRenameRewriterSaid : Prop := fnExactRenameRewriterRow.holds Try.pinned (OpenSpec.ofChange fnExactRenameRewriterSpec)

/-- ITS FALSE NEIGHBOUR: 'it returns false'. Refute it at one input. -/
def fnExactRenameRewriterWrong : ChangeSpec := { name := "fnExactRenameRewriter", fn := fun _ => fun
  | [d] => { results := [.lit (.bool false)], args := [d] }
  | _ => none }
def FnExactRenameRewriterWrongFalsely : Prop := fnExactRenameRewriterRow.holds Try.pinned (OpenSpec.ofChange fnExactRenameRewriterWrong)

/-- 'laws.FnExactCheckerOfAlgebra': WHATEVER THE INPUT: true; the input reads as it did. -/
def fnExactCheckerOfAlgebraSpec : ChangeSpec := { name := "fnExactCheckerOfAlgebra", fn := fun _ => fun
  | [d] => { results := [.lit (.bool true)], args := [d] }
  | _ => none }
def fnExactCheckerOfAlgebraRow : OpenClaim := { program := "ytegjfjckijmgcaa", sum := "75df618f89be632e9d6ba1df2cda7cc2cf8dff43068dd3b16384c7bad93e8fce", func := "loop.example/g01145/laws.FnExactCheckerOfAlgebra", spec := "fnExactCheckerOfAlgebra", unfollowed := true, recurses := true, apart := false }
def FnExactCheckerOfAlgebraSaid : Prop := fnExactCheckerOfAlgebraRow.holds Try.pinned (OpenSpec.ofChange fnExactCheckerOfAlgebraSpec)

/-- ITS FALSE NEIGHBOUR: 'it returns false'. Refute it at one input. -/
def fnExactCheckerOfAlgebraWrong : ChangeSpec := { name := "fnExactCheckerOfAlgebra", fn := fun _ => fun
  | [d] => { results := [.lit (.bool false)], args := [d] }
  | _ => none }
def FnExactCheckerOfAlgebraWrongFalsely : Prop := fnExactCheckerOfAlgebraRow.holds Try.pinned (OpenSpec.ofChange fnExactCheckerOfAlgebraWrong)

/-- 'laws.FnExactChoicesOf': WHATEVER THE INPUT: true; the input reads as it did. -/
def fnExactChoicesOfSpec : ChangeSpec := { name := "fnExactChoicesOf", fn := fun _ => fun
  | [d] => { results := [.lit (.bool true)], args := [d] }
  | _ => none }
def fnExactChoicesOfRow : OpenClaim := { program := "ytegjfjckijmgcaa", sum := "75df618f89be632e9d6ba1df2cda7cc2cf8dff43068dd3b16384c7bad93e8fce", func := "loop.example/g01145/laws.FnExactChoicesOf", spec := "fnExactChoicesOf", unfollowed := true, recurses := true, apart := false }
def FnExactChoicesOfSaid : Prop := fnExactChoicesOfRow.holds Try.pinned (OpenSpec.ofChange fnExactChoicesOfSpec)

/-- ITS FALSE NEIGHBOUR: 'it returns false'. Refute it at one input. -/
def fnExactChoicesOfWrong : ChangeSpec := { name := "fnExactChoicesOf", fn := fun _ => fun
  | [d] => { results := [.lit (.bool false)], args := [d] }
  | _ => none }
def FnExactChoicesOfWrongFalsely : Prop := fnExactChoicesOfRow.holds Try.pinned (OpenSpec.ofChange fnExactChoicesOfWrong)

/-- 'laws.FnExactEitherChoices': WHATEVER THE INPUT: true; the input reads as it did. -/
def fnExactEitherChoicesSpec : ChangeSpec := { name := "fnExactEitherChoices", fn := fun _ => fun
  | [d1, d2] => { results := [.lit (.bool true)], args := [d1, d2] }
  | _ => none }
def fnExactEitherChoicesRow : OpenClaim := { program := "ytegjfjckijmgcaa", sum := "75df618f89be632e9d6ba1df2cda7cc2cf8dff43068dd3b16384c7bad93e8fce", func := "loop.example/g01145/laws.FnExactEitherChoices", spec := "fnExactEitherChoices", unfollowed := true, recurses := true, apart := false }
def FnExactEitherChoicesSaid : Prop := fnExactEitherChoicesRow.holds Try.pinned (OpenSpec.ofChange fnExactEitherChoicesSpec)

/-- ITS FALSE NEIGHBOUR: 'it returns false'. Refute it at one input. -/
def fnExactEitherChoicesWrong : ChangeSpec := { name := "fnExactEitherChoices", fn := fun _ => fun
  | [d1, d2] => { results := [.lit (.bool false)], args := [d1, d2] }
  | _ => none }
def FnExactEitherChoicesWrongFalsely : Prop := fnExactEitherChoicesRow.holds Try.pinned (OpenSpec.ofChange fnExactEitherChoicesWrong)

/-- 'laws.FnExactChoicesTake': WHATEVER THE INPUT: true; the input reads as it did. -/
def fnExactChoicesTakeSpec : ChangeSpec := { name := "fnExactChoicesTake", fn := fun _ => fun
  | [d1, d2] => { results := [.lit (.bool true)], args := [d1, d2] }
  | _ => none }
def fnExactChoicesTakeRow : OpenClaim := { program := "ytegjfjckijmgcaa", sum := "75df618f89be632e9d6ba1df2cda7cc2cf8dff43068dd3b16384c7bad93e8fce", func := "loop.example/g01145/laws.FnExactChoicesTake", spec := "fnExactChoicesTake", inPlace := ["internal/bytealg.IndexByteString"], unfollowed := true, recurses := true, apart := false }
def FnExactChoicesTakeSaid : Prop := fnExactChoicesTakeRow.holds Try.pinned (OpenSpec.ofChange fnExactChoicesTakeSpec)

/-- ITS FALSE NEIGHBOUR: 'it returns false'. Refute it at one input. -/
def fnExactChoicesTakeWrong : ChangeSpec := { name := "fnExactChoicesTake", fn := fun _ => fun
  | [d1, d2] => { results := [.lit (.bool false)], args := [d1, d2] }
  | _ => none }
def FnExactChoicesTakeWrongFalsely : Prop := fnExactChoicesTakeRow.holds Try.pinned (OpenSpec.ofChange fnExactChoicesTakeWrong)

/-- 'laws.FnExactStatesAfter': WHATEVER THE INPUT: true; the input reads as it did. -/
def fnExactStatesAfterSpec : ChangeSpec := { name := "fnExactStatesAfter", fn := fun _ => fun
  | [d1, d2] => { results := [.lit (.bool true)], args := [d1, d2] }
  | _ => none }
def fnExactStatesAfterRow : OpenClaim := { program := "ytegjfjckijmgcaa", sum := "75df618f89be632e9d6ba1df2cda7cc2cf8dff43068dd3b16384c7bad93e8fce", func := "loop.example/g01145/laws.FnExactStatesAfter", spec := "fnExactStatesAfter", inPlace := ["internal/bytealg.IndexByteString"], unfollowed := true, recurses := true, apart := false }
def FnExactStatesAfterSaid : Prop := fnExactStatesAfterRow.holds Try.pinned (OpenSpec.ofChange fnExactStatesAfterSpec)

/-- ITS FALSE NEIGHBOUR: 'it returns false'. Refute it at one input. -/
def fnExactStatesAfterWrong : ChangeSpec := { name := "fnExactStatesAfter", fn := fun _ => fun
  | [d1, d2] => { results := [.lit (.bool false)], args := [d1, d2] }
  | _ => none }
def FnExactStatesAfterWrongFalsely : Prop := fnExactStatesAfterRow.holds Try.pinned (OpenSpec.ofChange fnExactStatesAfterWrong)

/- THE SECOND FORM. 'bulk': how many values and letters a reading holds, each counted each time it is reached (what is shared counts as often as it is met; a slice's spare places count too). A statement '..UptoSaid' is the law's where the arguments, and the package variables that the reading takes, are together of bulk at most 1048576: NARROWER than '..Said'. Prove '..Said' where nothing that the law and all that it calls make is longer than what came in: it says more and counts as full. Else prove '..UptoSaid'. A law counts once. -/
mutual
def uptoBulk {H : Type} : DataW H → Nat
  | .lit (.string bytes) => bytes.length + 1
  | .lit _ => 1
  | .nil => 1
  | .ptr d => uptoBulk d + 1
  | .slice elems spare => uptoBulkAll elems + uptoBulkAll spare + 1
  | .agg parts => uptoBulkAll parts + 1
  | .iface _ d => uptoBulk d + 1
  | .map entries => uptoBulkEntries entries + 1
  | .held _ => 1
def uptoBulkAll {H : Type} : List (DataW H) → Nat
  | [] => 0
  | d :: r => uptoBulk d + uptoBulkAll r
def uptoBulkEntries {H : Type} : List (Lit × DataW H) → Nat
  | [] => 0
  | x :: r => uptoBulkEntry x + uptoBulkEntries r
def uptoBulkEntry {H : Type} : Lit × DataW H → Nat
  | (.string bytes, d) => bytes.length + uptoBulk d + 1
  | (_, d) => uptoBulk d + 1
 end
def uptoSmall : (H : Type) → List (DataW H) → Bool := fun _ ds => decide (uptoBulkAll ds ≤ 1048576)
def OpenSpec.upto (s : _root_.Go.ChangeSpec) : _root_.Go.OpenSpec := { _root_.Go.OpenSpec.ofChange s with cond := some uptoSmall }

/-- 'laws.FnExactTellsApart', WHERE WHAT IT READS IS OF BULK AT MOST 1048576: true; the input reads as it did. -/
def fnExactTellsApartUptoRow : OpenClaim := { program := "ytegjfjckijmgcaa", sum := "75df618f89be632e9d6ba1df2cda7cc2cf8dff43068dd3b16384c7bad93e8fce", func := "loop.example/g01145/laws.FnExactTellsApart", spec := "fnExactTellsApart", inPlace := ["internal/bytealg.IndexByteString"], unfollowed := true, recurses := true, apart := false, narrowed := true }
def FnExactTellsApartUptoSaid : Prop := fnExactTellsApartUptoRow.holds Try.pinned (OpenSpec.upto fnExactTellsApartSpec)

/-- 'laws.FnExactRunOf', WHERE WHAT IT READS IS OF BULK AT MOST 1048576: true; the input reads as it did. -/
def fnExactRunOfUptoRow : OpenClaim := { program := "ytegjfjckijmgcaa", sum := "75df618f89be632e9d6ba1df2cda7cc2cf8dff43068dd3b16384c7bad93e8fce", func := "loop.example/g01145/laws.FnExactRunOf", spec := "fnExactRunOf", inPlace := ["internal/bytealg.IndexByteString"], unfollowed := true, recurses := true, apart := false, narrowed := true }
def FnExactRunOfUptoSaid : Prop := fnExactRunOfUptoRow.holds Try.pinned (OpenSpec.upto fnExactRunOfSpec)

/-- 'laws.FnExactStacksOf', WHERE WHAT IT READS IS OF BULK AT MOST 1048576: true; the input reads as it did. -/
def fnExactStacksOfUptoRow : OpenClaim := { program := "ytegjfjckijmgcaa", sum := "75df618f89be632e9d6ba1df2cda7cc2cf8dff43068dd3b16384c7bad93e8fce", func := "loop.example/g01145/laws.FnExactStacksOf", spec := "fnExactStacksOf", inPlace := ["internal/bytealg.IndexByteString"], unfollowed := true, recurses := true, apart := false, narrowed := true }
def FnExactStacksOfUptoSaid : Prop := fnExactStacksOfUptoRow.holds Try.pinned (OpenSpec.upto fnExactStacksOfSpec)

/-- 'laws.FnExactGoOn', WHERE WHAT IT READS IS OF BULK AT MOST 1048576: true; the input reads as it did. -/
def fnExactGoOnUptoRow : OpenClaim := { program := "ytegjfjckijmgcaa", sum := "75df618f89be632e9d6ba1df2cda7cc2cf8dff43068dd3b16384c7bad93e8fce", func := "loop.example/g01145/laws.FnExactGoOn", spec := "fnExactGoOn", inPlace := ["internal/bytealg.IndexByteString"], unfollowed := true, recurses := true, apart := false, narrowed := true }
def FnExactGoOnUptoSaid : Prop := fnExactGoOnUptoRow.holds Try.pinned (OpenSpec.upto fnExactGoOnSpec)

/-- 'laws.FnExactChoicesAt', WHERE WHAT IT READS IS OF BULK AT MOST 1048576: true; the input reads as it did. -/
def fnExactChoicesAtUptoRow : OpenClaim := { program := "ytegjfjckijmgcaa", sum := "75df618f89be632e9d6ba1df2cda7cc2cf8dff43068dd3b16384c7bad93e8fce", func := "loop.example/g01145/laws.FnExactChoicesAt", spec := "fnExactChoicesAt", unfollowed := true, recurses := true, apart := false, narrowed := true }
def FnExactChoicesAtUptoSaid : Prop := fnExactChoicesAtUptoRow.holds Try.pinned (OpenSpec.upto fnExactChoicesAtSpec)

/-- 'laws.FnExactRunProgram', WHERE WHAT IT READS IS OF BULK AT MOST 1048576: true; the input reads as it did. -/
def fnExactRunProgramUptoRow : OpenClaim := { program := "ytegjfjckijmgcaa", sum := "75df618f89be632e9d6ba1df2cda7cc2cf8dff43068dd3b16384c7bad93e8fce", func := "loop.example/g01145/laws.FnExactRunProgram", spec := "fnExactRunProgram", unfollowed := true, recurses := true, apart := false, narrowed := true }
def FnExactRunProgramUptoSaid : Prop := fnExactRunProgramUptoRow.holds Try.pinned (OpenSpec.upto fnExactRunProgramSpec)

/-- 'laws.FnExactRenameRewriter', WHERE WHAT IT READS IS OF BULK AT MOST 1048576: true; the input reads as it did. -/
def fnExactRenameRewriterUptoRow : OpenClaim := { program := "ytegjfjckijmgcaa", sum := "75df618f89be632e9d6ba1df2cda7cc2cf8dff43068dd3b16384c7bad93e8fce", func := "loop.example/g01145/laws.FnExactRenameRewriter", spec := "fnExactRenameRewriter", inPlace := ["internal/bytealg.IndexByteString"], unfollowed := true, recurses := true, apart := false, narrowed := true }
def FnExactRenameRewriterUptoSaid : Prop := fnExactRenameRewriterUptoRow.holds Try.pinned (OpenSpec.upto fnExactRenameRewriterSpec)

/-- 'laws.FnExactCheckerOfAlgebra', WHERE WHAT IT READS IS OF BULK AT MOST 1048576: true; the input reads as it did. -/
def fnExactCheckerOfAlgebraUptoRow : OpenClaim := { program := "ytegjfjckijmgcaa", sum := "75df618f89be632e9d6ba1df2cda7cc2cf8dff43068dd3b16384c7bad93e8fce", func := "loop.example/g01145/laws.FnExactCheckerOfAlgebra", spec := "fnExactCheckerOfAlgebra", unfollowed := true, recurses := true, apart := false, narrowed := true }
def FnExactCheckerOfAlgebraUptoSaid : Prop := fnExactCheckerOfAlgebraUptoRow.holds Try.pinned (OpenSpec.upto fnExactCheckerOfAlgebraSpec)

/-- 'laws.FnExactChoicesOf', WHERE WHAT IT READS IS OF BULK AT MOST 1048576: true; the input reads as it did. -/
def fnExactChoicesOfUptoRow : OpenClaim := { program := "ytegjfjckijmgcaa", sum := "75df618f89be632e9d6ba1df2cda7cc2cf8dff43068dd3b16384c7bad93e8fce", func := "loop.example/g01145/laws.FnExactChoicesOf", spec := "fnExactChoicesOf", unfollowed := true, recurses := true, apart := false, narrowed := true }
def FnExactChoicesOfUptoSaid : Prop := fnExactChoicesOfUptoRow.holds Try.pinned (OpenSpec.upto fnExactChoicesOfSpec)

/-- 'laws.FnExactEitherChoices', WHERE WHAT IT READS IS OF BULK AT MOST 1048576: true; the input reads as it did. -/
def fnExactEitherChoicesUptoRow : OpenClaim := { program := "ytegjfjckijmgcaa", sum := "75df618f89be632e9d6ba1df2cda7cc2cf8dff43068dd3b16384c7bad93e8fce", func := "loop.example/g01145/laws.FnExactEitherChoices", spec := "fnExactEitherChoices", unfollowed := true, recurses := true, apart := false, narrowed := true }
def FnExactEitherChoicesUptoSaid : Prop := fnExactEitherChoicesUptoRow.holds Try.pinned (OpenSpec.upto fnExactEitherChoicesSpec)

/-- 'laws.FnExactChoicesTake', WHERE WHAT IT READS IS OF BULK AT MOST 1048576: true; the input reads as it did. -/
def fnExactChoicesTakeUptoRow : OpenClaim := { program := "ytegjfjckijmgcaa", sum := "75df618f89be632e9d6ba1df2cda7cc2cf8dff43068dd3b16384c7bad93e8fce", func := "loop.example/g01145/laws.FnExactChoicesTake", spec := "fnExactChoicesTake", inPlace := ["internal/bytealg.IndexByteString"], unfollowed := true, recurses := true, apart := false, narrowed := true }
def FnExactChoicesTakeUptoSaid : Prop := fnExactChoicesTakeUptoRow.holds Try.pinned (OpenSpec.upto fnExactChoicesTakeSpec)

/-- 'laws.FnExactStatesAfter', WHERE WHAT IT READS IS OF BULK AT MOST 1048576: true; the input reads as it did. -/
def fnExactStatesAfterUptoRow : OpenClaim := { program := "ytegjfjckijmgcaa", sum := "75df618f89be632e9d6ba1df2cda7cc2cf8dff43068dd3b16384c7bad93e8fce", func := "loop.example/g01145/laws.FnExactStatesAfter", spec := "fnExactStatesAfter", inPlace := ["internal/bytealg.IndexByteString"], unfollowed := true, recurses := true, apart := false, narrowed := true }
def FnExactStatesAfterUptoSaid : Prop := fnExactStatesAfterUptoRow.holds Try.pinned (OpenSpec.upto fnExactStatesAfterSpec)

end Rows
end Go.Proofs.Ytegjfjckijmgcaa
