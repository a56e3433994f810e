/-
  No cell of these rows narrows 'for every input' (looked for: loops, veiled, ifaces, maps, wideKeys, modest, calm, conditions, laid).
  DERIVED. THE GIVEN ROWS OF THIS SEAT. 6 by the template 'for every input the law returns true; each argument reads behind the call as it read before'; 0 by the template 'total and deterministic' (their statements: YtlolldjkahkbfaaTotals.lean).
  GIVEN WITH THE SEED: the statements are not yours to turn. If you find one false, say at which input.
  Laid BY PROGRAM, IN A SANDBOX (cutbox-rows.mjs): the forced cells as the released guide's own fill.sh prints them over the translation da13d70537864ed0… (all of the seat's roots in one cut). By AI agents, Wed Nov 11 2026. No macro, syntax, notation, axiom, sorry.
-/
import Derived.Test.YtlolldjkahkbfaaChecked
import GoSem.Claim
import GoSem.ClaimJoined
import GoSem.ClaimMapViews
import Derived.JoinedTies
import Derived.KernelRfl
namespace Go.Proofs.Ytlolldjkahkbfaa
/- THE CELL 'sum', in the pinned program and in every row, IS THE sha256 OF THE DUMP (.gsa) THAT YtlolldjkahkbfaaProg.lean LOADS. Nothing in Lean hashes anything: it is a label: what it is worth is what the hold of that sum in a sandbox is worth. -/
noncomputable def Try.pinned : Pinned := { name := "ytlolldjkahkbfaa", sum := "da13d70537864ed0e9e23f05049cc336eadf81735f882c2ab216257444d48ff4", checked := Try.checked }
namespace Rows
def none {H : Type} : Left H := { results := [], args := [] }

/-- 'laws.FnRuns': WHATEVER THE INPUT: true; the input reads as it did. -/
def fnRunsSpec : ChangeSpec := { name := "fnRuns", fn := fun _ => fun
  | [d1, d2] => { results := [.lit (.bool true)], args := [d1, d2] }
  | _ => none }
def fnRunsRow : OpenClaim := { program := "ytlolldjkahkbfaa", sum := "da13d70537864ed0e9e23f05049cc336eadf81735f882c2ab216257444d48ff4", func := "loop.example/g01145/laws.FnRuns", spec := "fnRuns", inPlace := ["internal/bytealg.IndexByteString"], unfollowed := true, recurses := true, apart := false }
def FnRunsSaid : Prop := fnRunsRow.holds Try.pinned (OpenSpec.ofChange fnRunsSpec)

/-- ITS FALSE NEIGHBOUR: 'it returns false'. Refute it at one input. -/
def fnRunsWrong : ChangeSpec := { name := "fnRuns", fn := fun _ => fun
  | [d1, d2] => { results := [.lit (.bool false)], args := [d1, d2] }
  | _ => none }
def FnRunsWrongFalsely : Prop := fnRunsRow.holds Try.pinned (OpenSpec.ofChange fnRunsWrong)

/-- 'laws.FnExactAnswerPath': WHATEVER THE INPUT: true; the input reads as it did. -/
def fnExactAnswerPathSpec : ChangeSpec := { name := "fnExactAnswerPath", fn := fun _ => fun
  | [d1, d2, d3] => { results := [.lit (.bool true)], args := [d1, d2, d3] }
  | _ => none }
def fnExactAnswerPathRow : OpenClaim := { program := "ytlolldjkahkbfaa", sum := "da13d70537864ed0e9e23f05049cc336eadf81735f882c2ab216257444d48ff4", func := "loop.example/g01145/laws.FnExactAnswerPath", spec := "fnExactAnswerPath", inPlace := ["internal/bytealg.IndexByteString", "internal/bytealg.IndexString"], unfollowed := true, recurses := true, named := ["internal/bytealg.MaxLen"], apart := false }
def FnExactAnswerPathSaid : Prop := fnExactAnswerPathRow.holds Try.pinned (OpenSpec.ofChange fnExactAnswerPathSpec)

/-- ITS FALSE NEIGHBOUR: 'it returns false'. Refute it at one input. -/
def fnExactAnswerPathWrong : ChangeSpec := { name := "fnExactAnswerPath", fn := fun _ => fun
  | [d1, d2, d3] => { results := [.lit (.bool false)], args := [d1, d2, d3] }
  | _ => none }
def FnExactAnswerPathWrongFalsely : Prop := fnExactAnswerPathRow.holds Try.pinned (OpenSpec.ofChange fnExactAnswerPathWrong)

/-- 'laws.FnExactReachedNodes': WHATEVER THE INPUT: true; the input reads as it did. -/
def fnExactReachedNodesSpec : ChangeSpec := { name := "fnExactReachedNodes", fn := fun _ => fun
  | [d] => { results := [.lit (.bool true)], args := [d] }
  | _ => none }
def fnExactReachedNodesRow : OpenClaim := { program := "ytlolldjkahkbfaa", sum := "da13d70537864ed0e9e23f05049cc336eadf81735f882c2ab216257444d48ff4", func := "loop.example/g01145/laws.FnExactReachedNodes", spec := "fnExactReachedNodes", unfollowed := true, recurses := true, apart := false }
def FnExactReachedNodesSaid : Prop := fnExactReachedNodesRow.holds Try.pinned (OpenSpec.ofChange fnExactReachedNodesSpec)

/-- ITS FALSE NEIGHBOUR: 'it returns false'. Refute it at one input. -/
def fnExactReachedNodesWrong : ChangeSpec := { name := "fnExactReachedNodes", fn := fun _ => fun
  | [d] => { results := [.lit (.bool false)], args := [d] }
  | _ => none }
def FnExactReachedNodesWrongFalsely : Prop := fnExactReachedNodesRow.holds Try.pinned (OpenSpec.ofChange fnExactReachedNodesWrong)

/-- 'laws.FnExactRewriteOn': WHATEVER THE INPUT: true; the input reads as it did. -/
def fnExactRewriteOnSpec : ChangeSpec := { name := "fnExactRewriteOn", fn := fun _ => fun
  | [d1, d2, d3, d4] => { results := [.lit (.bool true)], args := [d1, d2, d3, d4] }
  | _ => none }
def fnExactRewriteOnRow : OpenClaim := { program := "ytlolldjkahkbfaa", sum := "da13d70537864ed0e9e23f05049cc336eadf81735f882c2ab216257444d48ff4", func := "loop.example/g01145/laws.FnExactRewriteOn", spec := "fnExactRewriteOn", inPlace := ["internal/bytealg.IndexByteString", "internal/abi.NoEscape"], unfollowed := true, recurses := true, apart := false }
def FnExactRewriteOnSaid : Prop := fnExactRewriteOnRow.holds Try.pinned (OpenSpec.ofChange fnExactRewriteOnSpec)

/-- ITS FALSE NEIGHBOUR: 'it returns false'. Refute it at one input. -/
def fnExactRewriteOnWrong : ChangeSpec := { name := "fnExactRewriteOn", fn := fun _ => fun
  | [d1, d2, d3, d4] => { results := [.lit (.bool false)], args := [d1, d2, d3, d4] }
  | _ => none }
def FnExactRewriteOnWrongFalsely : Prop := fnExactRewriteOnRow.holds Try.pinned (OpenSpec.ofChange fnExactRewriteOnWrong)

/-- 'laws.FnExactEitherChoices': WHATEVER THE INPUT: true; the input reads as it did. -/
def fnExactEitherChoicesSpec : ChangeSpec := { name := "fnExactEitherChoices", fn := fun _ => fun
  | [d1, d2] => { results := [.lit (.bool true)], args := [d1, d2] }
  | _ => none }
def fnExactEitherChoicesRow : OpenClaim := { program := "ytlolldjkahkbfaa", sum := "da13d70537864ed0e9e23f05049cc336eadf81735f882c2ab216257444d48ff4", func := "loop.example/g01145/laws.FnExactEitherChoices", spec := "fnExactEitherChoices", unfollowed := true, recurses := true, apart := false }
def FnExactEitherChoicesSaid : Prop := fnExactEitherChoicesRow.holds Try.pinned (OpenSpec.ofChange fnExactEitherChoicesSpec)

/-- ITS FALSE NEIGHBOUR: 'it returns false'. Refute it at one input. -/
def fnExactEitherChoicesWrong : ChangeSpec := { name := "fnExactEitherChoices", fn := fun _ => fun
  | [d1, d2] => { results := [.lit (.bool false)], args := [d1, d2] }
  | _ => none }
def FnExactEitherChoicesWrongFalsely : Prop := fnExactEitherChoicesRow.holds Try.pinned (OpenSpec.ofChange fnExactEitherChoicesWrong)

/-- 'laws.FnExactComposeRewriters': WHATEVER THE INPUT: true; the input reads as it did. -/
def fnExactComposeRewritersSpec : ChangeSpec := { name := "fnExactComposeRewriters", fn := fun _ => fun
  | [d1, d2] => { results := [.lit (.bool true)], args := [d1, d2] }
  | _ => none }
def fnExactComposeRewritersRow : OpenClaim := { program := "ytlolldjkahkbfaa", sum := "da13d70537864ed0e9e23f05049cc336eadf81735f882c2ab216257444d48ff4", func := "loop.example/g01145/laws.FnExactComposeRewriters", spec := "fnExactComposeRewriters", inPlace := ["internal/bytealg.IndexByteString", "internal/abi.NoEscape"], unfollowed := true, recurses := true, apart := false }
def FnExactComposeRewritersSaid : Prop := fnExactComposeRewritersRow.holds Try.pinned (OpenSpec.ofChange fnExactComposeRewritersSpec)

/-- ITS FALSE NEIGHBOUR: 'it returns false'. Refute it at one input. -/
def fnExactComposeRewritersWrong : ChangeSpec := { name := "fnExactComposeRewriters", fn := fun _ => fun
  | [d1, d2] => { results := [.lit (.bool false)], args := [d1, d2] }
  | _ => none }
def FnExactComposeRewritersWrongFalsely : Prop := fnExactComposeRewritersRow.holds Try.pinned (OpenSpec.ofChange fnExactComposeRewritersWrong)

/- THE SECOND FORM. 'bulk': how many values and letters a reading holds, each counted each time it is reached (what is shared counts as often as it is met; a slice's spare places count too). A statement '..UptoSaid' is the law's where the arguments, and the package variables that the reading takes, are together of bulk at most 1048576: NARROWER than '..Said'. Prove '..Said' where nothing that the law and all that it calls make is longer than what came in: it says more and counts as full. Else prove '..UptoSaid'. A law counts once. -/
mutual
def uptoBulk {H : Type} : DataW H → Nat
  | .lit (.string bytes) => bytes.length + 1
  | .lit _ => 1
  | .nil => 1
  | .ptr d => uptoBulk d + 1
  | .slice elems spare => uptoBulkAll elems + uptoBulkAll spare + 1
  | .agg parts => uptoBulkAll parts + 1
  | .iface _ d => uptoBulk d + 1
  | .map entries => uptoBulkEntries entries + 1
  | .held _ => 1
def uptoBulkAll {H : Type} : List (DataW H) → Nat
  | [] => 0
  | d :: r => uptoBulk d + uptoBulkAll r
def uptoBulkEntries {H : Type} : List (Lit × DataW H) → Nat
  | [] => 0
  | x :: r => uptoBulkEntry x + uptoBulkEntries r
def uptoBulkEntry {H : Type} : Lit × DataW H → Nat
  | (.string bytes, d) => bytes.length + uptoBulk d + 1
  | (_, d) => uptoBulk d + 1
 end
def uptoSmall : (H : Type) → List (DataW H) → Bool := fun _ ds => decide (uptoBulkAll ds ≤ 1048576)
def OpenSpec.upto (s : _root_.Go.ChangeSpec) : _root_.Go.OpenSpec := { _root_.Go.OpenSpec.ofChange s with cond := some uptoSmall }

/-- 'laws.FnRuns', WHERE WHAT IT READS IS OF BULK AT MOST 1048576: true; the input reads as it did. -/
def fnRunsUptoRow : OpenClaim := { program := "ytlolldjkahkbfaa", sum := "da13d70537864ed0e9e23f05049cc336eadf81735f882c2ab216257444d48ff4", func := "loop.example/g01145/laws.FnRuns", spec := "fnRuns", inPlace := ["internal/bytealg.IndexByteString"], unfollowed := true, recurses := true, apart := false, narrowed := true }
def FnRunsUptoSaid : Prop := fnRunsUptoRow.holds Try.pinned (OpenSpec.upto fnRunsSpec)

/-- 'laws.FnExactAnswerPath', WHERE WHAT IT READS IS OF BULK AT MOST 1048576: true; the input reads as it did. -/
def fnExactAnswerPathUptoRow : OpenClaim := { program := "ytlolldjkahkbfaa", sum := "da13d70537864ed0e9e23f05049cc336eadf81735f882c2ab216257444d48ff4", func := "loop.example/g01145/laws.FnExactAnswerPath", spec := "fnExactAnswerPath", inPlace := ["internal/bytealg.IndexByteString", "internal/bytealg.IndexString"], unfollowed := true, recurses := true, named := ["internal/bytealg.MaxLen"], apart := false, narrowed := true }
def FnExactAnswerPathUptoSaid : Prop := fnExactAnswerPathUptoRow.holds Try.pinned (OpenSpec.upto fnExactAnswerPathSpec)

/-- 'laws.FnExactReachedNodes', WHERE WHAT IT READS IS OF BULK AT MOST 1048576: true; the input reads as it did. -/
def fnExactReachedNodesUptoRow : OpenClaim := { program := "ytlolldjkahkbfaa", sum := "da13d70537864ed0e9e23f05049cc336eadf81735f882c2ab216257444d48ff4", func := "loop.example/g01145/laws.FnExactReachedNodes", spec := "fnExactReachedNodes", unfollowed := true, recurses := true, apart := false, narrowed := true }
def FnExactReachedNodesUptoSaid : Prop := fnExactReachedNodesUptoRow.holds Try.pinned (OpenSpec.upto fnExactReachedNodesSpec)

/-- 'laws.FnExactRewriteOn', WHERE WHAT IT READS IS OF BULK AT MOST 1048576: true; the input reads as it did. -/
def fnExactRewriteOnUptoRow : OpenClaim := { program := "ytlolldjkahkbfaa", sum := "da13d70537864ed0e9e23f05049cc336eadf81735f882c2ab216257444d48ff4", func := "loop.example/g01145/laws.FnExactRewriteOn", spec := "fnExactRewriteOn", inPlace := ["internal/bytealg.IndexByteString", "internal/abi.NoEscape"], unfollowed := true, recurses := true, apart := false, narrowed := true }
def FnExactRewriteOnUptoSaid : Prop := fnExactRewriteOnUptoRow.holds Try.pinned (OpenSpec.upto fnExactRewriteOnSpec)

/-- 'laws.FnExactEitherChoices', WHERE WHAT IT READS IS OF BULK AT MOST 1048576: true; the input reads as it did. -/
def fnExactEitherChoicesUptoRow : OpenClaim := { program := "ytlolldjkahkbfaa", sum := "da13d70537864ed0e9e23f05049cc336eadf81735f882c2ab216257444d48ff4", func := "loop.example/g01145/laws.FnExactEitherChoices", spec := "fnExactEitherChoices", unfollowed := true, recurses := true, apart := false, narrowed := true }
def FnExactEitherChoicesUptoSaid : Prop := fnExactEitherChoicesUptoRow.holds Try.pinned (OpenSpec.upto fnExactEitherChoicesSpec)

/-- 'laws.FnExactComposeRewriters', WHERE WHAT IT READS IS OF BULK AT MOST 1048576: true; the input reads as it did. -/
def fnExactComposeRewritersUptoRow : OpenClaim := { program := "ytlolldjkahkbfaa", sum := "da13d70537864ed0e9e23f05049cc336eadf81735f882c2ab216257444d48ff4", func := "loop.example/g01145/laws.FnExactComposeRewriters", spec := "fnExactComposeRewriters", inPlace := ["internal/bytealg.IndexByteString", "internal/abi.NoEscape"], unfollowed := true, recurses := true, apart := false, narrowed := true }
def FnExactComposeRewritersUptoSaid : Prop := fnExactComposeRewritersUptoRow.holds Try.pinned (OpenSpec.upto fnExactComposeRewritersSpec)

end Rows
end Go.Proofs.Ytlolldjkahkbfaa
