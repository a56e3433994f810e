/-
  No cell of these rows narrows 'for every input' (looked for: loops, veiled, ifaces, maps, wideKeys, modest, calm, conditions, laid).
  DERIVED. THE GIVEN ROWS OF THIS SEAT. 9 by the template 'for every input the law returns true; each argument reads behind the call as it read before'; 0 by the template 'total and deterministic' (their statements: YtlahdcofclkjjaaTotals.lean).
  GIVEN WITH THE SEED: the statements are not yours to turn. If you find one false, say at which input.
  Laid BY PROGRAM, IN A SANDBOX (cutbox-rows.mjs): the forced cells as the released guide's own fill.sh prints them over the translation be44805e789fb13d… (all of the seat's roots in one cut). By AI agents, Wed Nov 11 2026. No macro, syntax, notation, axiom, sorry.
-/
import Derived.Test.YtlahdcofclkjjaaChecked
import GoSem.Claim
import GoSem.ClaimJoined
import GoSem.ClaimMapViews
import Derived.JoinedTies
import Derived.KernelRfl
namespace Go.Proofs.Ytlahdcofclkjjaa
/- THE CELL 'sum', in the pinned program and in every row, IS THE sha256 OF THE DUMP (.gsa) THAT YtlahdcofclkjjaaProg.lean LOADS. Nothing in Lean hashes anything: it is a label: what it is worth is what the hold of that sum in a sandbox is worth. -/
noncomputable def Try.pinned : Pinned := { name := "ytlahdcofclkjjaa", sum := "be44805e789fb13d8751258f8c28b389e32d4661587824ed3e512d0b93ca6dfc", checked := Try.checked }
namespace Rows
def none {H : Type} : Left H := { results := [], args := [] }

/-- 'laws.FnExactValidRewriter': WHATEVER THE INPUT: true; the input reads as it did. -/
def fnExactValidRewriterSpec : ChangeSpec := { name := "fnExactValidRewriter", fn := fun _ => fun
  | [d] => { results := [.lit (.bool true)], args := [d] }
  | _ => none }
def fnExactValidRewriterRow : OpenClaim := { program := "ytlahdcofclkjjaa", sum := "be44805e789fb13d8751258f8c28b389e32d4661587824ed3e512d0b93ca6dfc", func := "loop.example/g01145/laws.FnExactValidRewriter", spec := "fnExactValidRewriter", inPlace := ["internal/bytealg.IndexByteString"], unfollowed := true, recurses := true, apart := false }
def FnExactValidRewriterSaid : Prop := fnExactValidRewriterRow.holds Try.pinned (OpenSpec.ofChange fnExactValidRewriterSpec)

/-- ITS FALSE NEIGHBOUR: 'it returns false'. Refute it at one input. -/
def fnExactValidRewriterWrong : ChangeSpec := { name := "fnExactValidRewriter", fn := fun _ => fun
  | [d] => { results := [.lit (.bool false)], args := [d] }
  | _ => none }
def FnExactValidRewriterWrongFalsely : Prop := fnExactValidRewriterRow.holds Try.pinned (OpenSpec.ofChange fnExactValidRewriterWrong)

/-- 'laws.FnExactEditTrees': WHATEVER THE INPUT: true; the input reads as it did. -/
def fnExactEditTreesSpec : ChangeSpec := { name := "fnExactEditTrees", fn := fun _ => fun
  | [d1, d2] => { results := [.lit (.bool true)], args := [d1, d2] }
  | _ => none }
def fnExactEditTreesRow : OpenClaim := { program := "ytlahdcofclkjjaa", sum := "be44805e789fb13d8751258f8c28b389e32d4661587824ed3e512d0b93ca6dfc", func := "loop.example/g01145/laws.FnExactEditTrees", spec := "fnExactEditTrees", inPlace := ["internal/bytealg.IndexByteString"], unfollowed := true, recurses := true, apart := false }
def FnExactEditTreesSaid : Prop := fnExactEditTreesRow.holds Try.pinned (OpenSpec.ofChange fnExactEditTreesSpec)

/-- ITS FALSE NEIGHBOUR: 'it returns false'. Refute it at one input. -/
def fnExactEditTreesWrong : ChangeSpec := { name := "fnExactEditTrees", fn := fun _ => fun
  | [d1, d2] => { results := [.lit (.bool false)], args := [d1, d2] }
  | _ => none }
def FnExactEditTreesWrongFalsely : Prop := fnExactEditTreesRow.holds Try.pinned (OpenSpec.ofChange fnExactEditTreesWrong)

/-- 'laws.FnExactUndoTreeEdit': WHATEVER THE INPUT: true; the input reads as it did. -/
def fnExactUndoTreeEditSpec : ChangeSpec := { name := "fnExactUndoTreeEdit", fn := fun _ => fun
  | [d1, d2] => { results := [.lit (.bool true)], args := [d1, d2] }
  | _ => none }
def fnExactUndoTreeEditRow : OpenClaim := { program := "ytlahdcofclkjjaa", sum := "be44805e789fb13d8751258f8c28b389e32d4661587824ed3e512d0b93ca6dfc", func := "loop.example/g01145/laws.FnExactUndoTreeEdit", spec := "fnExactUndoTreeEdit", inPlace := ["internal/bytealg.IndexByteString"], apart := false }
def FnExactUndoTreeEditSaid : Prop := fnExactUndoTreeEditRow.holds Try.pinned (OpenSpec.ofChange fnExactUndoTreeEditSpec)

/-- ITS FALSE NEIGHBOUR: 'it returns false'. Refute it at one input. -/
def fnExactUndoTreeEditWrong : ChangeSpec := { name := "fnExactUndoTreeEdit", fn := fun _ => fun
  | [d1, d2] => { results := [.lit (.bool false)], args := [d1, d2] }
  | _ => none }
def FnExactUndoTreeEditWrongFalsely : Prop := fnExactUndoTreeEditRow.holds Try.pinned (OpenSpec.ofChange fnExactUndoTreeEditWrong)

/-- 'laws.FnExactIsStructural': WHATEVER THE INPUT: true; the input reads as it did. -/
def fnExactIsStructuralSpec : ChangeSpec := { name := "fnExactIsStructural", fn := fun _ => fun
  | [d] => { results := [.lit (.bool true)], args := [d] }
  | _ => none }
def fnExactIsStructuralRow : OpenClaim := { program := "ytlahdcofclkjjaa", sum := "be44805e789fb13d8751258f8c28b389e32d4661587824ed3e512d0b93ca6dfc", func := "loop.example/g01145/laws.FnExactIsStructural", spec := "fnExactIsStructural", inPlace := ["internal/bytealg.IndexByteString"], unfollowed := true, recurses := true, apart := false }
def FnExactIsStructuralSaid : Prop := fnExactIsStructuralRow.holds Try.pinned (OpenSpec.ofChange fnExactIsStructuralSpec)

/-- ITS FALSE NEIGHBOUR: 'it returns false'. Refute it at one input. -/
def fnExactIsStructuralWrong : ChangeSpec := { name := "fnExactIsStructural", fn := fun _ => fun
  | [d] => { results := [.lit (.bool false)], args := [d] }
  | _ => none }
def FnExactIsStructuralWrongFalsely : Prop := fnExactIsStructuralRow.holds Try.pinned (OpenSpec.ofChange fnExactIsStructuralWrong)

/-- 'laws.FnExactRewrite': WHATEVER THE INPUT: true; the input reads as it did. -/
def fnExactRewriteSpec : ChangeSpec := { name := "fnExactRewrite", fn := fun _ => fun
  | [d1, d2] => { results := [.lit (.bool true)], args := [d1, d2] }
  | _ => none }
def fnExactRewriteRow : OpenClaim := { program := "ytlahdcofclkjjaa", sum := "be44805e789fb13d8751258f8c28b389e32d4661587824ed3e512d0b93ca6dfc", func := "loop.example/g01145/laws.FnExactRewrite", spec := "fnExactRewrite", inPlace := ["internal/bytealg.IndexByteString", "internal/abi.NoEscape"], unfollowed := true, recurses := true, apart := false }
def FnExactRewriteSaid : Prop := fnExactRewriteRow.holds Try.pinned (OpenSpec.ofChange fnExactRewriteSpec)

/-- ITS FALSE NEIGHBOUR: 'it returns false'. Refute it at one input. -/
def fnExactRewriteWrong : ChangeSpec := { name := "fnExactRewrite", fn := fun _ => fun
  | [d1, d2] => { results := [.lit (.bool false)], args := [d1, d2] }
  | _ => none }
def FnExactRewriteWrongFalsely : Prop := fnExactRewriteRow.holds Try.pinned (OpenSpec.ofChange fnExactRewriteWrong)

/-- 'laws.FnExactRewriteOn': WHATEVER THE INPUT: true; the input reads as it did. -/
def fnExactRewriteOnSpec : ChangeSpec := { name := "fnExactRewriteOn", fn := fun _ => fun
  | [d1, d2, d3, d4] => { results := [.lit (.bool true)], args := [d1, d2, d3, d4] }
  | _ => none }
def fnExactRewriteOnRow : OpenClaim := { program := "ytlahdcofclkjjaa", sum := "be44805e789fb13d8751258f8c28b389e32d4661587824ed3e512d0b93ca6dfc", func := "loop.example/g01145/laws.FnExactRewriteOn", spec := "fnExactRewriteOn", inPlace := ["internal/bytealg.IndexByteString", "internal/abi.NoEscape"], unfollowed := true, recurses := true, apart := false }
def FnExactRewriteOnSaid : Prop := fnExactRewriteOnRow.holds Try.pinned (OpenSpec.ofChange fnExactRewriteOnSpec)

/-- ITS FALSE NEIGHBOUR: 'it returns false'. Refute it at one input. -/
def fnExactRewriteOnWrong : ChangeSpec := { name := "fnExactRewriteOn", fn := fun _ => fun
  | [d1, d2, d3, d4] => { results := [.lit (.bool false)], args := [d1, d2, d3, d4] }
  | _ => none }
def FnExactRewriteOnWrongFalsely : Prop := fnExactRewriteOnRow.holds Try.pinned (OpenSpec.ofChange fnExactRewriteOnWrong)

/-- 'laws.FnExactChoicesAt': WHATEVER THE INPUT: true; the input reads as it did. -/
def fnExactChoicesAtSpec : ChangeSpec := { name := "fnExactChoicesAt", fn := fun _ => fun
  | [d1, d2] => { results := [.lit (.bool true)], args := [d1, d2] }
  | _ => none }
def fnExactChoicesAtRow : OpenClaim := { program := "ytlahdcofclkjjaa", sum := "be44805e789fb13d8751258f8c28b389e32d4661587824ed3e512d0b93ca6dfc", func := "loop.example/g01145/laws.FnExactChoicesAt", spec := "fnExactChoicesAt", unfollowed := true, recurses := true, apart := false }
def FnExactChoicesAtSaid : Prop := fnExactChoicesAtRow.holds Try.pinned (OpenSpec.ofChange fnExactChoicesAtSpec)

/-- ITS FALSE NEIGHBOUR: 'it returns false'. Refute it at one input. -/
def fnExactChoicesAtWrong : ChangeSpec := { name := "fnExactChoicesAt", fn := fun _ => fun
  | [d1, d2] => { results := [.lit (.bool false)], args := [d1, d2] }
  | _ => none }
def FnExactChoicesAtWrongFalsely : Prop := fnExactChoicesAtRow.holds Try.pinned (OpenSpec.ofChange fnExactChoicesAtWrong)

/-- 'laws.FnExactRunProgram': WHATEVER THE INPUT: true; the input reads as it did. -/
def fnExactRunProgramSpec : ChangeSpec := { name := "fnExactRunProgram", fn := fun _ => fun
  | [d1, d2] => { results := [.lit (.bool true)], args := [d1, d2] }
  | _ => none }
def fnExactRunProgramRow : OpenClaim := { program := "ytlahdcofclkjjaa", sum := "be44805e789fb13d8751258f8c28b389e32d4661587824ed3e512d0b93ca6dfc", func := "loop.example/g01145/laws.FnExactRunProgram", spec := "fnExactRunProgram", unfollowed := true, recurses := true, apart := false }
def FnExactRunProgramSaid : Prop := fnExactRunProgramRow.holds Try.pinned (OpenSpec.ofChange fnExactRunProgramSpec)

/-- ITS FALSE NEIGHBOUR: 'it returns false'. Refute it at one input. -/
def fnExactRunProgramWrong : ChangeSpec := { name := "fnExactRunProgram", fn := fun _ => fun
  | [d1, d2] => { results := [.lit (.bool false)], args := [d1, d2] }
  | _ => none }
def FnExactRunProgramWrongFalsely : Prop := fnExactRunProgramRow.holds Try.pinned (OpenSpec.ofChange fnExactRunProgramWrong)

/-- 'laws.FnExactTakes': WHATEVER THE INPUT: true; the input reads as it did. -/
def fnExactTakesSpec : ChangeSpec := { name := "fnExactTakes", fn := fun _ => fun
  | [d1, d2] => { results := [.lit (.bool true)], args := [d1, d2] }
  | _ => none }
def fnExactTakesRow : OpenClaim := { program := "ytlahdcofclkjjaa", sum := "be44805e789fb13d8751258f8c28b389e32d4661587824ed3e512d0b93ca6dfc", func := "loop.example/g01145/laws.FnExactTakes", spec := "fnExactTakes", inPlace := ["internal/bytealg.IndexByteString"], unfollowed := true, recurses := true, apart := false }
def FnExactTakesSaid : Prop := fnExactTakesRow.holds Try.pinned (OpenSpec.ofChange fnExactTakesSpec)

/-- ITS FALSE NEIGHBOUR: 'it returns false'. Refute it at one input. -/
def fnExactTakesWrong : ChangeSpec := { name := "fnExactTakes", fn := fun _ => fun
  | [d1, d2] => { results := [.lit (.bool false)], args := [d1, d2] }
  | _ => none }
def FnExactTakesWrongFalsely : Prop := fnExactTakesRow.holds Try.pinned (OpenSpec.ofChange fnExactTakesWrong)

/- THE SECOND FORM. 'bulk': how many values and letters a reading holds, each counted each time it is reached (what is shared counts as often as it is met; a slice's spare places count too). A statement '..UptoSaid' is the law's where the arguments, and the package variables that the reading takes, are together of bulk at most 1048576: NARROWER than '..Said'. Prove '..Said' where nothing that the law and all that it calls make is longer than what came in: it says more and counts as full. Else prove '..UptoSaid'. A law counts once. -/
mutual
def uptoBulk {H : Type} : DataW H → Nat
  | .lit (.string bytes) => bytes.length + 1
  | .lit _ => 1
  | .nil => 1
  | .ptr d => uptoBulk d + 1
  | .slice elems spare => uptoBulkAll elems + uptoBulkAll spare + 1
  | .agg parts => uptoBulkAll parts + 1
  | .iface _ d => uptoBulk d + 1
  | .map entries => uptoBulkEntries entries + 1
  | .held _ => 1
def uptoBulkAll {H : Type} : List (DataW H) → Nat
  | [] => 0
  | d :: r => uptoBulk d + uptoBulkAll r
def uptoBulkEntries {H : Type} : List (Lit × DataW H) → Nat
  | [] => 0
  | x :: r => uptoBulkEntry x + uptoBulkEntries r
def uptoBulkEntry {H : Type} : Lit × DataW H → Nat
  | (.string bytes, d) => bytes.length + uptoBulk d + 1
  | (_, d) => uptoBulk d + 1
 end
def uptoSmall : (H : Type) → List (DataW H) → Bool := fun _ ds => decide (uptoBulkAll ds ≤ 1048576)
def OpenSpec.upto (s : _root_.Go.ChangeSpec) : _root_.Go.OpenSpec := { _root_.Go.OpenSpec.ofChange s with cond := some uptoSmall }

/-- 'laws.FnExactValidRewriter', WHERE WHAT IT READS IS OF BULK AT MOST 1048576: true; the input reads as it did. -/
def fnExactValidRewriterUptoRow : OpenClaim := { program := "ytlahdcofclkjjaa", sum := "be44805e789fb13d8751258f8c28b389e32d4661587824ed3e512d0b93ca6dfc", func := "loop.example/g01145/laws.FnExactValidRewriter", spec := "fnExactValidRewriter", inPlace := ["internal/bytealg.IndexByteString"], unfollowed := true, recurses := true, apart := false, narrowed := true }
def FnExactValidRewriterUptoSaid : Prop := fnExactValidRewriterUptoRow.holds Try.pinned (OpenSpec.upto fnExactValidRewriterSpec)

/-- 'laws.FnExactEditTrees', WHERE WHAT IT READS IS OF BULK AT MOST 1048576: true; the input reads as it did. -/
def fnExactEditTreesUptoRow : OpenClaim := { program := "ytlahdcofclkjjaa", sum := "be44805e789fb13d8751258f8c28b389e32d4661587824ed3e512d0b93ca6dfc", func := "loop.example/g01145/laws.FnExactEditTrees", spec := "fnExactEditTrees", inPlace := ["internal/bytealg.IndexByteString"], unfollowed := true, recurses := true, apart := false, narrowed := true }
def FnExactEditTreesUptoSaid : Prop := fnExactEditTreesUptoRow.holds Try.pinned (OpenSpec.upto fnExactEditTreesSpec)

/-- 'laws.FnExactUndoTreeEdit', WHERE WHAT IT READS IS OF BULK AT MOST 1048576: true; the input reads as it did. -/
def fnExactUndoTreeEditUptoRow : OpenClaim := { program := "ytlahdcofclkjjaa", sum := "be44805e789fb13d8751258f8c28b389e32d4661587824ed3e512d0b93ca6dfc", func := "loop.example/g01145/laws.FnExactUndoTreeEdit", spec := "fnExactUndoTreeEdit", inPlace := ["internal/bytealg.IndexByteString"], apart := false, narrowed := true }
def FnExactUndoTreeEditUptoSaid : Prop := fnExactUndoTreeEditUptoRow.holds Try.pinned (OpenSpec.upto fnExactUndoTreeEditSpec)

/-- 'laws.FnExactIsStructural', WHERE WHAT IT READS IS OF BULK AT MOST 1048576: true; the input reads as it did. -/
def fnExactIsStructuralUptoRow : OpenClaim := { program := "ytlahdcofclkjjaa", sum := "be44805e789fb13d8751258f8c28b389e32d4661587824ed3e512d0b93ca6dfc", func := "loop.example/g01145/laws.FnExactIsStructural", spec := "fnExactIsStructural", inPlace := ["internal/bytealg.IndexByteString"], unfollowed := true, recurses := true, apart := false, narrowed := true }
def FnExactIsStructuralUptoSaid : Prop := fnExactIsStructuralUptoRow.holds Try.pinned (OpenSpec.upto fnExactIsStructuralSpec)

/-- 'laws.FnExactRewrite', WHERE WHAT IT READS IS OF BULK AT MOST 1048576: true; the input reads as it did. -/
def fnExactRewriteUptoRow : OpenClaim := { program := "ytlahdcofclkjjaa", sum := "be44805e789fb13d8751258f8c28b389e32d4661587824ed3e512d0b93ca6dfc", func := "loop.example/g01145/laws.FnExactRewrite", spec := "fnExactRewrite", inPlace := ["internal/bytealg.IndexByteString", "internal/abi.NoEscape"], unfollowed := true, recurses := true, apart := false, narrowed := true }
def FnExactRewriteUptoSaid : Prop := fnExactRewriteUptoRow.holds Try.pinned (OpenSpec.upto fnExactRewriteSpec)

/-- 'laws.FnExactRewriteOn', WHERE WHAT IT READS IS OF BULK AT MOST 1048576: true; the input reads as it did. -/
def fnExactRewriteOnUptoRow : OpenClaim := { program := "ytlahdcofclkjjaa", sum := "be44805e789fb13d8751258f8c28b389e32d4661587824ed3e512d0b93ca6dfc", func := "loop.example/g01145/laws.FnExactRewriteOn", spec := "fnExactRewriteOn", inPlace := ["internal/bytealg.IndexByteString", "internal/abi.NoEscape"], unfollowed := true, recurses := true, apart := false, narrowed := true }
def FnExactRewriteOnUptoSaid : Prop := fnExactRewriteOnUptoRow.holds Try.pinned (OpenSpec.upto fnExactRewriteOnSpec)

/-- 'laws.FnExactChoicesAt', WHERE WHAT IT READS IS OF BULK AT MOST 1048576: true; the input reads as it did. -/
def fnExactChoicesAtUptoRow : OpenClaim := { program := "ytlahdcofclkjjaa", sum := "be44805e789fb13d8751258f8c28b389e32d4661587824ed3e512d0b93ca6dfc", func := "loop.example/g01145/laws.FnExactChoicesAt", spec := "fnExactChoicesAt", unfollowed := true, recurses := true, apart := false, narrowed := true }
def FnExactChoicesAtUptoSaid : Prop := fnExactChoicesAtUptoRow.holds Try.pinned (OpenSpec.upto fnExactChoicesAtSpec)

/-- 'laws.FnExactRunProgram', WHERE WHAT IT READS IS OF BULK AT MOST 1048576: true; the input reads as it did. -/
def fnExactRunProgramUptoRow : OpenClaim := { program := "ytlahdcofclkjjaa", sum := "be44805e789fb13d8751258f8c28b389e32d4661587824ed3e512d0b93ca6dfc", func := "loop.example/g01145/laws.FnExactRunProgram", spec := "fnExactRunProgram", unfollowed := true, recurses := true, apart := false, narrowed := true }
def FnExactRunProgramUptoSaid : Prop := fnExactRunProgramUptoRow.holds Try.pinned (OpenSpec.upto fnExactRunProgramSpec)

/-- 'laws.FnExactTakes', WHERE WHAT IT READS IS OF BULK AT MOST 1048576: true; the input reads as it did. -/
def fnExactTakesUptoRow : OpenClaim := { program := "ytlahdcofclkjjaa", sum := "be44805e789fb13d8751258f8c28b389e32d4661587824ed3e512d0b93ca6dfc", func := "loop.example/g01145/laws.FnExactTakes", spec := "fnExactTakes", inPlace := ["internal/bytealg.IndexByteString"], unfollowed := true, recurses := true, apart := false, narrowed := true }
def FnExactTakesUptoSaid : Prop := fnExactTakesUptoRow.holds Try.pinned (OpenSpec.upto fnExactTakesSpec)

end Rows
end Go.Proofs.Ytlahdcofclkjjaa
