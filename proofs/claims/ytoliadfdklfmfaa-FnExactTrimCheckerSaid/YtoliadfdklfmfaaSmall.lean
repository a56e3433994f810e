/- Small functions that look at numbers, symbols and short texts. -/
import Derived.Test.YtoliadfdklfmfaaDat
import Derived.Test.YtoliadfdklfmfaaLoops
set_option linter.unusedVariables false
set_option linter.unusedSimpArgs false
set_option maxRecDepth 100000
namespace Go.Proofs.Ytoliadfdklfmfaa
open Aw

def inR (n lo hi : Int) : Bool := decide (lo ≤ n) && decide (n ≤ hi)
def isCallB (c : Int) : Bool := decide (c = 40) || decide (c = 91)
def isRetB (c : Int) : Bool := decide (c = 41) || decide (c = 93)
def isInnB (c : Int) : Bool := decide (c = 97) || decide (c = 98)
def isBrk (s : ByteArray) : Bool := decide (s.size = 2) && isCallB (bt s 0) && isRetB (bt s 1)
def isLet (s : ByteArray) : Bool := decide (s = ⟨#[97]⟩) || decide (s = ⟨#[98]⟩)

@[simp] theorem ev_impl_within (n a b : Int) : ev fns i_impl_within [i64 n, i64 a, i64 b] [] = some (bol (inR n a b), []) := by
  refine go_impl_within (by simp) ?_
  by_cases h : a ≤ n <;> simp [ac_impl_within, inR, h]
@[simp] theorem ev_spec_l00In (n a b : Int) : ev fns i_spec_l00In [i64 n, i64 a, i64 b] [] = some (bol (inR n a b), []) := by
  refine go_spec_l00In (by simp) ?_
  by_cases h : a ≤ n <;> simp [ac_spec_l00In, inR, h]
theorem isBrk_size {s : ByteArray} (h : isBrk s = true) : s.size = 2 := by simp [isBrk] at h; exact h.1.1
end Go.Proofs.Ytoliadfdklfmfaa
