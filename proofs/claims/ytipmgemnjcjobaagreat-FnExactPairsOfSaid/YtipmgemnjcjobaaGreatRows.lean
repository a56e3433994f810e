/-
  No cell of these rows narrows 'for every input' (looked for: loops, veiled, ifaces, maps, wideKeys, modest, calm, conditions, laid).
  DERIVED. THE GIVEN ROWS OF THIS SEAT. 3 by the template 'for every input the law returns true; each argument reads behind the call as it read before'; 0 by the template 'total and deterministic' (their statements: YtipmgemnjcjobaaGreatTotals.lean).
  GIVEN WITH THE SEED: the statements are not yours to turn. If you find one false, say at which input.
  Laid BY PROGRAM, IN A SANDBOX (cutbox-rows.mjs): the forced cells as the released guide's own fill.sh prints them over the translation b114630f20c60cd5… (all of the seat's roots in one cut). By AI agents, Wed Nov 11 2026. No macro, syntax, notation, axiom, sorry.
-/
import Derived.Test.YtipmgemnjcjobaaGreatChecked
import GoSem.Claim
import GoSem.ClaimJoined
import GoSem.ClaimMapViews
import Derived.JoinedTies
import Derived.KernelRfl
namespace Go.Proofs.YtipmgemnjcjobaaGreat
/- THE CELL 'sum', in the pinned program and in every row, IS THE sha256 OF THE DUMP (.gsa) THAT YtipmgemnjcjobaaGreatProg.lean LOADS. Nothing in Lean hashes anything: it is a label: what it is worth is what the hold of that sum in a sandbox is worth. -/
noncomputable def Tryz.pinned : Pinned := { name := "ytipmgemnjcjobaagreat", sum := "b114630f20c60cd51df4cff27dd79c8beea8323f395b40315865899bd4396187", checked := Tryz.checked }
namespace Rows
def none {H : Type} : Left H := { results := [], args := [] }

/-- 'laws.FnExactPairsOf': WHATEVER THE INPUT: true; the input reads as it did. -/
def fnExactPairsOfSpec : ChangeSpec := { name := "fnExactPairsOf", fn := fun _ => fun
  | [d1, d2] => { results := [.lit (.bool true)], args := [d1, d2] }
  | _ => none }
def fnExactPairsOfRow : OpenClaim := { program := "ytipmgemnjcjobaagreat", sum := "b114630f20c60cd51df4cff27dd79c8beea8323f395b40315865899bd4396187", func := "loop.example/g01145/laws.FnExactPairsOf", spec := "fnExactPairsOf", inPlace := ["internal/bytealg.IndexByteString"], unfollowed := true, recurses := true, plainKeys := false, apart := false }
def FnExactPairsOfSaid : Prop := fnExactPairsOfRow.holds Tryz.pinned (OpenSpec.ofChange fnExactPairsOfSpec)

/-- ITS FALSE NEIGHBOUR: 'it returns false'. Refute it at one input. -/
def fnExactPairsOfWrong : ChangeSpec := { name := "fnExactPairsOf", fn := fun _ => fun
  | [d1, d2] => { results := [.lit (.bool false)], args := [d1, d2] }
  | _ => none }
def FnExactPairsOfWrongFalsely : Prop := fnExactPairsOfRow.holds Tryz.pinned (OpenSpec.ofChange fnExactPairsOfWrong)

/-- 'laws.FnCountedWords': WHATEVER THE INPUT: true; the input reads as it did. -/
def fnCountedWordsSpec : ChangeSpec := { name := "fnCountedWords", fn := fun _ => fun
  | [d1, d2] => { results := [.lit (.bool true)], args := [d1, d2] }
  | _ => none }
def fnCountedWordsRow : OpenClaim := { program := "ytipmgemnjcjobaagreat", sum := "b114630f20c60cd51df4cff27dd79c8beea8323f395b40315865899bd4396187", func := "loop.example/g01145/laws.FnCountedWords", spec := "fnCountedWords", inPlace := ["internal/bytealg.IndexByteString", "sync/atomic.LoadUint32", "(*internal/sync.Mutex).Lock", "internal/race.Disable", "sync/atomic.CompareAndSwapInt32", "internal/race.Enable", "internal/race.Acquire", "(*internal/sync.Mutex).lockSlow", "internal/sync.runtime_canSpin", "internal/sync.runtime_doSpin", "internal/sync.throw", "internal/sync.runtime_nanotime", "internal/sync.runtime_SemacquireMutex", "sync/atomic.AddInt32", "(*internal/sync.Mutex).Unlock", "internal/race.ReleaseMerge", "(*internal/sync.Mutex).unlockSlow", "internal/sync.fatal", "internal/sync.runtime_Semrelease", "sync/atomic.StoreUint32"], unfollowed := true, recurses := true, plainKeys := false, apart := false }
def FnCountedWordsSaid : Prop := fnCountedWordsRow.holds Tryz.pinned (OpenSpec.ofChange fnCountedWordsSpec)

/-- ITS FALSE NEIGHBOUR: 'it returns false'. Refute it at one input. -/
def fnCountedWordsWrong : ChangeSpec := { name := "fnCountedWords", fn := fun _ => fun
  | [d1, d2] => { results := [.lit (.bool false)], args := [d1, d2] }
  | _ => none }
def FnCountedWordsWrongFalsely : Prop := fnCountedWordsRow.holds Tryz.pinned (OpenSpec.ofChange fnCountedWordsWrong)

/-- 'laws.FnExactCheckerOf': WHATEVER THE INPUT: true; the input reads as it did. -/
def fnExactCheckerOfSpec : ChangeSpec := { name := "fnExactCheckerOf", fn := fun _ => fun
  | [d] => { results := [.lit (.bool true)], args := [d] }
  | _ => none }
def fnExactCheckerOfRow : OpenClaim := { program := "ytipmgemnjcjobaagreat", sum := "b114630f20c60cd51df4cff27dd79c8beea8323f395b40315865899bd4396187", func := "loop.example/g01145/laws.FnExactCheckerOf", spec := "fnExactCheckerOf", unfollowed := true, recurses := true, plainKeys := false, apart := false }
def FnExactCheckerOfSaid : Prop := fnExactCheckerOfRow.holds Tryz.pinned (OpenSpec.ofChange fnExactCheckerOfSpec)

/-- ITS FALSE NEIGHBOUR: 'it returns false'. Refute it at one input. -/
def fnExactCheckerOfWrong : ChangeSpec := { name := "fnExactCheckerOf", fn := fun _ => fun
  | [d] => { results := [.lit (.bool false)], args := [d] }
  | _ => none }
def FnExactCheckerOfWrongFalsely : Prop := fnExactCheckerOfRow.holds Tryz.pinned (OpenSpec.ofChange fnExactCheckerOfWrong)

/- THE SECOND FORM. 'bulk': how many values and letters a reading holds, each counted each time it is reached (what is shared counts as often as it is met; a slice's spare places count too). A statement '..UptoSaid' is the law's where the arguments, and the package variables that the reading takes, are together of bulk at most 1048576: NARROWER than '..Said'. Prove '..Said' where nothing that the law and all that it calls make is longer than what came in: it says more and counts as full. Else prove '..UptoSaid'. A law counts once. -/
mutual
def uptoBulk {H : Type} : DataW H → Nat
  | .lit (.string bytes) => bytes.length + 1
  | .lit _ => 1
  | .nil => 1
  | .ptr d => uptoBulk d + 1
  | .slice elems spare => uptoBulkAll elems + uptoBulkAll spare + 1
  | .agg parts => uptoBulkAll parts + 1
  | .iface _ d => uptoBulk d + 1
  | .map entries => uptoBulkEntries entries + 1
  | .held _ => 1
def uptoBulkAll {H : Type} : List (DataW H) → Nat
  | [] => 0
  | d :: r => uptoBulk d + uptoBulkAll r
def uptoBulkEntries {H : Type} : List (Lit × DataW H) → Nat
  | [] => 0
  | x :: r => uptoBulkEntry x + uptoBulkEntries r
def uptoBulkEntry {H : Type} : Lit × DataW H → Nat
  | (.string bytes, d) => bytes.length + uptoBulk d + 1
  | (_, d) => uptoBulk d + 1
 end
def uptoSmall : (H : Type) → List (DataW H) → Bool := fun _ ds => decide (uptoBulkAll ds ≤ 1048576)
def OpenSpec.upto (s : _root_.Go.ChangeSpec) : _root_.Go.OpenSpec := { _root_.Go.OpenSpec.ofChange s with cond := some uptoSmall }

/-- 'laws.FnExactPairsOf', WHERE WHAT IT READS IS OF BULK AT MOST 1048576: true; the input reads as it did. -/
def fnExactPairsOfUptoRow : OpenClaim := { program := "ytipmgemnjcjobaagreat", sum := "b114630f20c60cd51df4cff27dd79c8beea8323f395b40315865899bd4396187", func := "loop.example/g01145/laws.FnExactPairsOf", spec := "fnExactPairsOf", inPlace := ["internal/bytealg.IndexByteString"], unfollowed := true, recurses := true, plainKeys := false, apart := false, narrowed := true }
def FnExactPairsOfUptoSaid : Prop := fnExactPairsOfUptoRow.holds Tryz.pinned (OpenSpec.upto fnExactPairsOfSpec)

/-- 'laws.FnCountedWords', WHERE WHAT IT READS IS OF BULK AT MOST 1048576: true; the input reads as it did. -/
def fnCountedWordsUptoRow : OpenClaim := { program := "ytipmgemnjcjobaagreat", sum := "b114630f20c60cd51df4cff27dd79c8beea8323f395b40315865899bd4396187", func := "loop.example/g01145/laws.FnCountedWords", spec := "fnCountedWords", inPlace := ["internal/bytealg.IndexByteString", "sync/atomic.LoadUint32", "(*internal/sync.Mutex).Lock", "internal/race.Disable", "sync/atomic.CompareAndSwapInt32", "internal/race.Enable", "internal/race.Acquire", "(*internal/sync.Mutex).lockSlow", "internal/sync.runtime_canSpin", "internal/sync.runtime_doSpin", "internal/sync.throw", "internal/sync.runtime_nanotime", "internal/sync.runtime_SemacquireMutex", "sync/atomic.AddInt32", "(*internal/sync.Mutex).Unlock", "internal/race.ReleaseMerge", "(*internal/sync.Mutex).unlockSlow", "internal/sync.fatal", "internal/sync.runtime_Semrelease", "sync/atomic.StoreUint32"], unfollowed := true, recurses := true, plainKeys := false, apart := false, narrowed := true }
def FnCountedWordsUptoSaid : Prop := fnCountedWordsUptoRow.holds Tryz.pinned (OpenSpec.upto fnCountedWordsSpec)

/-- 'laws.FnExactCheckerOf', WHERE WHAT IT READS IS OF BULK AT MOST 1048576: true; the input reads as it did. -/
def fnExactCheckerOfUptoRow : OpenClaim := { program := "ytipmgemnjcjobaagreat", sum := "b114630f20c60cd51df4cff27dd79c8beea8323f395b40315865899bd4396187", func := "loop.example/g01145/laws.FnExactCheckerOf", spec := "fnExactCheckerOf", unfollowed := true, recurses := true, plainKeys := false, apart := false, narrowed := true }
def FnExactCheckerOfUptoSaid : Prop := fnExactCheckerOfUptoRow.holds Tryz.pinned (OpenSpec.upto fnExactCheckerOfSpec)

end Rows
end Go.Proofs.YtipmgemnjcjobaaGreat
