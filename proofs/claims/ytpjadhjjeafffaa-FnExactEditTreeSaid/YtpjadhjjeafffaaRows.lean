/-
  No cell of these rows narrows 'for every input' (looked for: loops, veiled, ifaces, maps, wideKeys, modest, calm, conditions, laid).
  DERIVED. THE GIVEN ROWS OF THIS SEAT. 12 by the template 'for every input the law returns true; each argument reads behind the call as it read before'; 0 by the template 'total and deterministic' (their statements: YtpjadhjjeafffaaTotals.lean).
  GIVEN WITH THE SEED: the statements are not yours to turn. If you find one false, say at which input.
  Laid BY PROGRAM, IN A SANDBOX (cutbox-rows.mjs): the forced cells as the released guide's own fill.sh prints them over the translation febcccc3b4b5490b… (all of the seat's roots in one cut). By AI agents, Wed Nov 11 2026. No macro, syntax, notation, axiom, sorry.
-/
import Derived.Test.YtpjadhjjeafffaaChecked
import GoSem.Claim
import GoSem.ClaimJoined
import GoSem.ClaimMapViews
import Derived.JoinedTies
import Derived.KernelRfl
namespace Go.Proofs.Ytpjadhjjeafffaa
/- THE CELL 'sum', in the pinned program and in every row, IS THE sha256 OF THE DUMP (.gsa) THAT YtpjadhjjeafffaaProg.lean LOADS. Nothing in Lean hashes anything: it is a label: what it is worth is what the hold of that sum in a sandbox is worth. -/
noncomputable def Try.pinned : Pinned := { name := "ytpjadhjjeafffaa", sum := "febcccc3b4b5490b6c2e56bb6b8ea9692159afde2502b90b203b25671f576696", checked := Try.checked }
namespace Rows
def none {H : Type} : Left H := { results := [], args := [] }

/-- 'laws.FnExactSameProgram': WHATEVER THE INPUT: true; the input reads as it did. -/
def fnExactSameProgramSpec : ChangeSpec := { name := "fnExactSameProgram", fn := fun _ => fun
  | [d1, d2] => { results := [.lit (.bool true)], args := [d1, d2] }
  | _ => none }
def fnExactSameProgramRow : OpenClaim := { program := "ytpjadhjjeafffaa", sum := "febcccc3b4b5490b6c2e56bb6b8ea9692159afde2502b90b203b25671f576696", func := "loop.example/g01145/laws.FnExactSameProgram", spec := "fnExactSameProgram", unfollowed := true, recurses := true, apart := false }
def FnExactSameProgramSaid : Prop := fnExactSameProgramRow.holds Try.pinned (OpenSpec.ofChange fnExactSameProgramSpec)

/-- ITS FALSE NEIGHBOUR: 'it returns false'. Refute it at one input. -/
def fnExactSameProgramWrong : ChangeSpec := { name := "fnExactSameProgram", fn := fun _ => fun
  | [d1, d2] => { results := [.lit (.bool false)], args := [d1, d2] }
  | _ => none }
def FnExactSameProgramWrongFalsely : Prop := fnExactSameProgramRow.holds Try.pinned (OpenSpec.ofChange fnExactSameProgramWrong)

/-- 'laws.FnExactValidTreeEdit': WHATEVER THE INPUT: true; the input reads as it did. -/
def fnExactValidTreeEditSpec : ChangeSpec := { name := "fnExactValidTreeEdit", fn := fun _ => fun
  | [d] => { results := [.lit (.bool true)], args := [d] }
  | _ => none }
def fnExactValidTreeEditRow : OpenClaim := { program := "ytpjadhjjeafffaa", sum := "febcccc3b4b5490b6c2e56bb6b8ea9692159afde2502b90b203b25671f576696", func := "loop.example/g01145/laws.FnExactValidTreeEdit", spec := "fnExactValidTreeEdit", inPlace := ["internal/bytealg.IndexByteString"], apart := false }
def FnExactValidTreeEditSaid : Prop := fnExactValidTreeEditRow.holds Try.pinned (OpenSpec.ofChange fnExactValidTreeEditSpec)

/-- ITS FALSE NEIGHBOUR: 'it returns false'. Refute it at one input. -/
def fnExactValidTreeEditWrong : ChangeSpec := { name := "fnExactValidTreeEdit", fn := fun _ => fun
  | [d] => { results := [.lit (.bool false)], args := [d] }
  | _ => none }
def FnExactValidTreeEditWrongFalsely : Prop := fnExactValidTreeEditRow.holds Try.pinned (OpenSpec.ofChange fnExactValidTreeEditWrong)

/-- 'laws.FnExactValidProgram': WHATEVER THE INPUT: true; the input reads as it did. -/
def fnExactValidProgramSpec : ChangeSpec := { name := "fnExactValidProgram", fn := fun _ => fun
  | [d] => { results := [.lit (.bool true)], args := [d] }
  | _ => none }
def fnExactValidProgramRow : OpenClaim := { program := "ytpjadhjjeafffaa", sum := "febcccc3b4b5490b6c2e56bb6b8ea9692159afde2502b90b203b25671f576696", func := "loop.example/g01145/laws.FnExactValidProgram", spec := "fnExactValidProgram", unfollowed := true, recurses := true, apart := false }
def FnExactValidProgramSaid : Prop := fnExactValidProgramRow.holds Try.pinned (OpenSpec.ofChange fnExactValidProgramSpec)

/-- ITS FALSE NEIGHBOUR: 'it returns false'. Refute it at one input. -/
def fnExactValidProgramWrong : ChangeSpec := { name := "fnExactValidProgram", fn := fun _ => fun
  | [d] => { results := [.lit (.bool false)], args := [d] }
  | _ => none }
def FnExactValidProgramWrongFalsely : Prop := fnExactValidProgramRow.holds Try.pinned (OpenSpec.ofChange fnExactValidProgramWrong)

/-- 'laws.FnExactIdentityRewriter': WHATEVER THE INPUT: true; the input reads as it did. -/
def fnExactIdentityRewriterSpec : ChangeSpec := { name := "fnExactIdentityRewriter", fn := fun _ => fun
  | [] => { results := [.lit (.bool true)], args := [] }
  | _ => none }
def fnExactIdentityRewriterRow : OpenClaim := { program := "ytpjadhjjeafffaa", sum := "febcccc3b4b5490b6c2e56bb6b8ea9692159afde2502b90b203b25671f576696", func := "loop.example/g01145/laws.FnExactIdentityRewriter", spec := "fnExactIdentityRewriter", unfollowed := true, recurses := true, apart := false }
def FnExactIdentityRewriterSaid : Prop := fnExactIdentityRewriterRow.holds Try.pinned (OpenSpec.ofChange fnExactIdentityRewriterSpec)

/-- ITS FALSE NEIGHBOUR: 'it returns false'. Refute it at one input. -/
def fnExactIdentityRewriterWrong : ChangeSpec := { name := "fnExactIdentityRewriter", fn := fun _ => fun
  | [] => { results := [.lit (.bool false)], args := [] }
  | _ => none }
def FnExactIdentityRewriterWrongFalsely : Prop := fnExactIdentityRewriterRow.holds Try.pinned (OpenSpec.ofChange fnExactIdentityRewriterWrong)

/-- 'laws.FnExactFixRewriter': WHATEVER THE INPUT: true; the input reads as it did. -/
def fnExactFixRewriterSpec : ChangeSpec := { name := "fnExactFixRewriter", fn := fun _ => fun
  | [] => { results := [.lit (.bool true)], args := [] }
  | _ => none }
def fnExactFixRewriterRow : OpenClaim := { program := "ytpjadhjjeafffaa", sum := "febcccc3b4b5490b6c2e56bb6b8ea9692159afde2502b90b203b25671f576696", func := "loop.example/g01145/laws.FnExactFixRewriter", spec := "fnExactFixRewriter", unfollowed := true, recurses := true, apart := false }
def FnExactFixRewriterSaid : Prop := fnExactFixRewriterRow.holds Try.pinned (OpenSpec.ofChange fnExactFixRewriterSpec)

/-- ITS FALSE NEIGHBOUR: 'it returns false'. Refute it at one input. -/
def fnExactFixRewriterWrong : ChangeSpec := { name := "fnExactFixRewriter", fn := fun _ => fun
  | [] => { results := [.lit (.bool false)], args := [] }
  | _ => none }
def FnExactFixRewriterWrongFalsely : Prop := fnExactFixRewriterRow.holds Try.pinned (OpenSpec.ofChange fnExactFixRewriterWrong)

/-- 'laws.FnExactUnwrapRewriter': WHATEVER THE INPUT: true; the input reads as it did. -/
def fnExactUnwrapRewriterSpec : ChangeSpec := { name := "fnExactUnwrapRewriter", fn := fun _ => fun
  | [d] => { results := [.lit (.bool true)], args := [d] }
  | _ => none }
def fnExactUnwrapRewriterRow : OpenClaim := { program := "ytpjadhjjeafffaa", sum := "febcccc3b4b5490b6c2e56bb6b8ea9692159afde2502b90b203b25671f576696", func := "loop.example/g01145/laws.FnExactUnwrapRewriter", spec := "fnExactUnwrapRewriter", unfollowed := true, recurses := true, apart := false }
def FnExactUnwrapRewriterSaid : Prop := fnExactUnwrapRewriterRow.holds Try.pinned (OpenSpec.ofChange fnExactUnwrapRewriterSpec)

/-- ITS FALSE NEIGHBOUR: 'it returns false'. Refute it at one input. -/
def fnExactUnwrapRewriterWrong : ChangeSpec := { name := "fnExactUnwrapRewriter", fn := fun _ => fun
  | [d] => { results := [.lit (.bool false)], args := [d] }
  | _ => none }
def FnExactUnwrapRewriterWrongFalsely : Prop := fnExactUnwrapRewriterRow.holds Try.pinned (OpenSpec.ofChange fnExactUnwrapRewriterWrong)

/-- 'laws.FnRuns': WHATEVER THE INPUT: true; the input reads as it did. -/
def fnRunsSpec : ChangeSpec := { name := "fnRuns", fn := fun _ => fun
  | [d1, d2] => { results := [.lit (.bool true)], args := [d1, d2] }
  | _ => none }
def fnRunsRow : OpenClaim := { program := "ytpjadhjjeafffaa", sum := "febcccc3b4b5490b6c2e56bb6b8ea9692159afde2502b90b203b25671f576696", func := "loop.example/g01145/laws.FnRuns", spec := "fnRuns", inPlace := ["internal/bytealg.IndexByteString"], unfollowed := true, recurses := true, apart := false }
def FnRunsSaid : Prop := fnRunsRow.holds Try.pinned (OpenSpec.ofChange fnRunsSpec)

/-- ITS FALSE NEIGHBOUR: 'it returns false'. Refute it at one input. -/
def fnRunsWrong : ChangeSpec := { name := "fnRuns", fn := fun _ => fun
  | [d1, d2] => { results := [.lit (.bool false)], args := [d1, d2] }
  | _ => none }
def FnRunsWrongFalsely : Prop := fnRunsRow.holds Try.pinned (OpenSpec.ofChange fnRunsWrong)

/-- 'laws.FnExactThinRewriter': WHATEVER THE INPUT: true; the input reads as it did. -/
def fnExactThinRewriterSpec : ChangeSpec := { name := "fnExactThinRewriter", fn := fun _ => fun
  | [d] => { results := [.lit (.bool true)], args := [d] }
  | _ => none }
def fnExactThinRewriterRow : OpenClaim := { program := "ytpjadhjjeafffaa", sum := "febcccc3b4b5490b6c2e56bb6b8ea9692159afde2502b90b203b25671f576696", func := "loop.example/g01145/laws.FnExactThinRewriter", spec := "fnExactThinRewriter", unfollowed := true, recurses := true, apart := false }
def FnExactThinRewriterSaid : Prop := fnExactThinRewriterRow.holds Try.pinned (OpenSpec.ofChange fnExactThinRewriterSpec)

/-- ITS FALSE NEIGHBOUR: 'it returns false'. Refute it at one input. -/
def fnExactThinRewriterWrong : ChangeSpec := { name := "fnExactThinRewriter", fn := fun _ => fun
  | [d] => { results := [.lit (.bool false)], args := [d] }
  | _ => none }
def FnExactThinRewriterWrongFalsely : Prop := fnExactThinRewriterRow.holds Try.pinned (OpenSpec.ofChange fnExactThinRewriterWrong)

/-- 'laws.FnExactDropRewriter': WHATEVER THE INPUT: true; the input reads as it did. -/
def fnExactDropRewriterSpec : ChangeSpec := { name := "fnExactDropRewriter", fn := fun _ => fun
  | [d] => { results := [.lit (.bool true)], args := [d] }
  | _ => none }
def fnExactDropRewriterRow : OpenClaim := { program := "ytpjadhjjeafffaa", sum := "febcccc3b4b5490b6c2e56bb6b8ea9692159afde2502b90b203b25671f576696", func := "loop.example/g01145/laws.FnExactDropRewriter", spec := "fnExactDropRewriter", unfollowed := true, recurses := true, apart := false }
def FnExactDropRewriterSaid : Prop := fnExactDropRewriterRow.holds Try.pinned (OpenSpec.ofChange fnExactDropRewriterSpec)

/-- ITS FALSE NEIGHBOUR: 'it returns false'. Refute it at one input. -/
def fnExactDropRewriterWrong : ChangeSpec := { name := "fnExactDropRewriter", fn := fun _ => fun
  | [d] => { results := [.lit (.bool false)], args := [d] }
  | _ => none }
def FnExactDropRewriterWrongFalsely : Prop := fnExactDropRewriterRow.holds Try.pinned (OpenSpec.ofChange fnExactDropRewriterWrong)

/-- 'laws.FnExactSameRewriter': WHATEVER THE INPUT: true; the input reads as it did. -/
def fnExactSameRewriterSpec : ChangeSpec := { name := "fnExactSameRewriter", fn := fun _ => fun
  | [d1, d2] => { results := [.lit (.bool true)], args := [d1, d2] }
  | _ => none }
def fnExactSameRewriterRow : OpenClaim := { program := "ytpjadhjjeafffaa", sum := "febcccc3b4b5490b6c2e56bb6b8ea9692159afde2502b90b203b25671f576696", func := "loop.example/g01145/laws.FnExactSameRewriter", spec := "fnExactSameRewriter", unfollowed := true, recurses := true, apart := false }
def FnExactSameRewriterSaid : Prop := fnExactSameRewriterRow.holds Try.pinned (OpenSpec.ofChange fnExactSameRewriterSpec)

/-- ITS FALSE NEIGHBOUR: 'it returns false'. Refute it at one input. -/
def fnExactSameRewriterWrong : ChangeSpec := { name := "fnExactSameRewriter", fn := fun _ => fun
  | [d1, d2] => { results := [.lit (.bool false)], args := [d1, d2] }
  | _ => none }
def FnExactSameRewriterWrongFalsely : Prop := fnExactSameRewriterRow.holds Try.pinned (OpenSpec.ofChange fnExactSameRewriterWrong)

/-- 'laws.FnExactRenameRewriter': WHATEVER THE INPUT: true; the input reads as it did. -/
def fnExactRenameRewriterSpec : ChangeSpec := { name := "fnExactRenameRewriter", fn := fun _ => fun
  | [d] => { results := [.lit (.bool true)], args := [d] }
  | _ => none }
def fnExactRenameRewriterRow : OpenClaim := { program := "ytpjadhjjeafffaa", sum := "febcccc3b4b5490b6c2e56bb6b8ea9692159afde2502b90b203b25671f576696", func := "loop.example/g01145/laws.FnExactRenameRewriter", spec := "fnExactRenameRewriter", inPlace := ["internal/bytealg.IndexByteString"], unfollowed := true, recurses := true, apart := false }
def FnExactRenameRewriterSaid : Prop := fnExactRenameRewriterRow.holds Try.pinned (OpenSpec.ofChange fnExactRenameRewriterSpec)

/-- ITS FALSE NEIGHBOUR: 'it returns false'. Refute it at one input. -/
def fnExactRenameRewriterWrong : ChangeSpec := { name := "fnExactRenameRewriter", fn := fun _ => fun
  | [d] => { results := [.lit (.bool false)], args := [d] }
  | _ => none }
def FnExactRenameRewriterWrongFalsely : Prop := fnExactRenameRewriterRow.holds Try.pinned (OpenSpec.ofChange fnExactRenameRewriterWrong)

/-- 'laws.FnExactEditTree': WHATEVER THE INPUT: true; the input reads as it did. -/
def fnExactEditTreeSpec : ChangeSpec := { name := "fnExactEditTree", fn := fun _ => fun
  | [d1, d2] => { results := [.lit (.bool true)], args := [d1, d2] }
  | _ => none }
def fnExactEditTreeRow : OpenClaim := { program := "ytpjadhjjeafffaa", sum := "febcccc3b4b5490b6c2e56bb6b8ea9692159afde2502b90b203b25671f576696", func := "loop.example/g01145/laws.FnExactEditTree", spec := "fnExactEditTree", inPlace := ["internal/bytealg.IndexByteString"], apart := false }
def FnExactEditTreeSaid : Prop := fnExactEditTreeRow.holds Try.pinned (OpenSpec.ofChange fnExactEditTreeSpec)

/-- ITS FALSE NEIGHBOUR: 'it returns false'. Refute it at one input. -/
def fnExactEditTreeWrong : ChangeSpec := { name := "fnExactEditTree", fn := fun _ => fun
  | [d1, d2] => { results := [.lit (.bool false)], args := [d1, d2] }
  | _ => none }
def FnExactEditTreeWrongFalsely : Prop := fnExactEditTreeRow.holds Try.pinned (OpenSpec.ofChange fnExactEditTreeWrong)

/- THE SECOND FORM. 'bulk': how many values and letters a reading holds, each counted each time it is reached (what is shared counts as often as it is met; a slice's spare places count too). A statement '..UptoSaid' is the law's where the arguments, and the package variables that the reading takes, are together of bulk at most 1048576: NARROWER than '..Said'. Prove '..Said' where nothing that the law and all that it calls make is longer than what came in: it says more and counts as full. Else prove '..UptoSaid'. A law counts once. -/
mutual
def uptoBulk {H : Type} : DataW H → Nat
  | .lit (.string bytes) => bytes.length + 1
  | .lit _ => 1
  | .nil => 1
  | .ptr d => uptoBulk d + 1
  | .slice elems spare => uptoBulkAll elems + uptoBulkAll spare + 1
  | .agg parts => uptoBulkAll parts + 1
  | .iface _ d => uptoBulk d + 1
  | .map entries => uptoBulkEntries entries + 1
  | .held _ => 1
def uptoBulkAll {H : Type} : List (DataW H) → Nat
  | [] => 0
  | d :: r => uptoBulk d + uptoBulkAll r
def uptoBulkEntries {H : Type} : List (Lit × DataW H) → Nat
  | [] => 0
  | x :: r => uptoBulkEntry x + uptoBulkEntries r
def uptoBulkEntry {H : Type} : Lit × DataW H → Nat
  | (.string bytes, d) => bytes.length + uptoBulk d + 1
  | (_, d) => uptoBulk d + 1
 end
def uptoSmall : (H : Type) → List (DataW H) → Bool := fun _ ds => decide (uptoBulkAll ds ≤ 1048576)
def OpenSpec.upto (s : _root_.Go.ChangeSpec) : _root_.Go.OpenSpec := { _root_.Go.OpenSpec.ofChange s with cond := some uptoSmall }

/-- 'laws.FnExactSameProgram', WHERE WHAT IT READS IS OF BULK AT MOST 1048576: true; the input reads as it did. -/
def fnExactSameProgramUptoRow : OpenClaim := { program := "ytpjadhjjeafffaa", sum := "febcccc3b4b5490b6c2e56bb6b8ea9692159afde2502b90b203b25671f576696", func := "loop.example/g01145/laws.FnExactSameProgram", spec := "fnExactSameProgram", unfollowed := true, recurses := true, apart := false, narrowed := true }
def FnExactSameProgramUptoSaid : Prop := fnExactSameProgramUptoRow.holds Try.pinned (OpenSpec.upto fnExactSameProgramSpec)

/-- 'laws.FnExactValidTreeEdit', WHERE WHAT IT READS IS OF BULK AT MOST 1048576: true; the input reads as it did. -/
def fnExactValidTreeEditUptoRow : OpenClaim := { program := "ytpjadhjjeafffaa", sum := "febcccc3b4b5490b6c2e56bb6b8ea9692159afde2502b90b203b25671f576696", func := "loop.example/g01145/laws.FnExactValidTreeEdit", spec := "fnExactValidTreeEdit", inPlace := ["internal/bytealg.IndexByteString"], apart := false, narrowed := true }
def FnExactValidTreeEditUptoSaid : Prop := fnExactValidTreeEditUptoRow.holds Try.pinned (OpenSpec.upto fnExactValidTreeEditSpec)

/-- 'laws.FnExactValidProgram', WHERE WHAT IT READS IS OF BULK AT MOST 1048576: true; the input reads as it did. -/
def fnExactValidProgramUptoRow : OpenClaim := { program := "ytpjadhjjeafffaa", sum := "febcccc3b4b5490b6c2e56bb6b8ea9692159afde2502b90b203b25671f576696", func := "loop.example/g01145/laws.FnExactValidProgram", spec := "fnExactValidProgram", unfollowed := true, recurses := true, apart := false, narrowed := true }
def FnExactValidProgramUptoSaid : Prop := fnExactValidProgramUptoRow.holds Try.pinned (OpenSpec.upto fnExactValidProgramSpec)

/-- 'laws.FnExactIdentityRewriter', WHERE WHAT IT READS IS OF BULK AT MOST 1048576: true; the input reads as it did. -/
def fnExactIdentityRewriterUptoRow : OpenClaim := { program := "ytpjadhjjeafffaa", sum := "febcccc3b4b5490b6c2e56bb6b8ea9692159afde2502b90b203b25671f576696", func := "loop.example/g01145/laws.FnExactIdentityRewriter", spec := "fnExactIdentityRewriter", unfollowed := true, recurses := true, apart := false, narrowed := true }
def FnExactIdentityRewriterUptoSaid : Prop := fnExactIdentityRewriterUptoRow.holds Try.pinned (OpenSpec.upto fnExactIdentityRewriterSpec)

/-- 'laws.FnExactFixRewriter', WHERE WHAT IT READS IS OF BULK AT MOST 1048576: true; the input reads as it did. -/
def fnExactFixRewriterUptoRow : OpenClaim := { program := "ytpjadhjjeafffaa", sum := "febcccc3b4b5490b6c2e56bb6b8ea9692159afde2502b90b203b25671f576696", func := "loop.example/g01145/laws.FnExactFixRewriter", spec := "fnExactFixRewriter", unfollowed := true, recurses := true, apart := false, narrowed := true }
def FnExactFixRewriterUptoSaid : Prop := fnExactFixRewriterUptoRow.holds Try.pinned (OpenSpec.upto fnExactFixRewriterSpec)

/-- 'laws.FnExactUnwrapRewriter', WHERE WHAT IT READS IS OF BULK AT MOST 1048576: true; the input reads as it did. -/
def fnExactUnwrapRewriterUptoRow : OpenClaim := { program := "ytpjadhjjeafffaa", sum := "febcccc3b4b5490b6c2e56bb6b8ea9692159afde2502b90b203b25671f576696", func := "loop.example/g01145/laws.FnExactUnwrapRewriter", spec := "fnExactUnwrapRewriter", unfollowed := true, recurses := true, apart := false, narrowed := true }
def FnExactUnwrapRewriterUptoSaid : Prop := fnExactUnwrapRewriterUptoRow.holds Try.pinned (OpenSpec.upto fnExactUnwrapRewriterSpec)

/-- 'laws.FnRuns', WHERE WHAT IT READS IS OF BULK AT MOST 1048576: true; the input reads as it did. -/
def fnRunsUptoRow : OpenClaim := { program := "ytpjadhjjeafffaa", sum := "febcccc3b4b5490b6c2e56bb6b8ea9692159afde2502b90b203b25671f576696", func := "loop.example/g01145/laws.FnRuns", spec := "fnRuns", inPlace := ["internal/bytealg.IndexByteString"], unfollowed := true, recurses := true, apart := false, narrowed := true }
def FnRunsUptoSaid : Prop := fnRunsUptoRow.holds Try.pinned (OpenSpec.upto fnRunsSpec)

/-- 'laws.FnExactThinRewriter', WHERE WHAT IT READS IS OF BULK AT MOST 1048576: true; the input reads as it did. -/
def fnExactThinRewriterUptoRow : OpenClaim := { program := "ytpjadhjjeafffaa", sum := "febcccc3b4b5490b6c2e56bb6b8ea9692159afde2502b90b203b25671f576696", func := "loop.example/g01145/laws.FnExactThinRewriter", spec := "fnExactThinRewriter", unfollowed := true, recurses := true, apart := false, narrowed := true }
def FnExactThinRewriterUptoSaid : Prop := fnExactThinRewriterUptoRow.holds Try.pinned (OpenSpec.upto fnExactThinRewriterSpec)

/-- 'laws.FnExactDropRewriter', WHERE WHAT IT READS IS OF BULK AT MOST 1048576: true; the input reads as it did. -/
def fnExactDropRewriterUptoRow : OpenClaim := { program := "ytpjadhjjeafffaa", sum := "febcccc3b4b5490b6c2e56bb6b8ea9692159afde2502b90b203b25671f576696", func := "loop.example/g01145/laws.FnExactDropRewriter", spec := "fnExactDropRewriter", unfollowed := true, recurses := true, apart := false, narrowed := true }
def FnExactDropRewriterUptoSaid : Prop := fnExactDropRewriterUptoRow.holds Try.pinned (OpenSpec.upto fnExactDropRewriterSpec)

/-- 'laws.FnExactSameRewriter', WHERE WHAT IT READS IS OF BULK AT MOST 1048576: true; the input reads as it did. -/
def fnExactSameRewriterUptoRow : OpenClaim := { program := "ytpjadhjjeafffaa", sum := "febcccc3b4b5490b6c2e56bb6b8ea9692159afde2502b90b203b25671f576696", func := "loop.example/g01145/laws.FnExactSameRewriter", spec := "fnExactSameRewriter", unfollowed := true, recurses := true, apart := false, narrowed := true }
def FnExactSameRewriterUptoSaid : Prop := fnExactSameRewriterUptoRow.holds Try.pinned (OpenSpec.upto fnExactSameRewriterSpec)

/-- 'laws.FnExactRenameRewriter', WHERE WHAT IT READS IS OF BULK AT MOST 1048576: true; the input reads as it did. -/
def fnExactRenameRewriterUptoRow : OpenClaim := { program := "ytpjadhjjeafffaa", sum := "febcccc3b4b5490b6c2e56bb6b8ea9692159afde2502b90b203b25671f576696", func := "loop.example/g01145/laws.FnExactRenameRewriter", spec := "fnExactRenameRewriter", inPlace := ["internal/bytealg.IndexByteString"], unfollowed := true, recurses := true, apart := false, narrowed := true }
def FnExactRenameRewriterUptoSaid : Prop := fnExactRenameRewriterUptoRow.holds Try.pinned (OpenSpec.upto fnExactRenameRewriterSpec)

/-- 'laws.FnExactEditTree', WHERE WHAT IT READS IS OF BULK AT MOST 1048576: true; the input reads as it did. -/
def fnExactEditTreeUptoRow : OpenClaim := { program := "ytpjadhjjeafffaa", sum := "febcccc3b4b5490b6c2e56bb6b8ea9692159afde2502b90b203b25671f576696", func := "loop.example/g01145/laws.FnExactEditTree", spec := "fnExactEditTree", inPlace := ["internal/bytealg.IndexByteString"], apart := false, narrowed := true }
def FnExactEditTreeUptoSaid : Prop := fnExactEditTreeUptoRow.holds Try.pinned (OpenSpec.upto fnExactEditTreeSpec)

end Rows
end Go.Proofs.Ytpjadhjjeafffaa
