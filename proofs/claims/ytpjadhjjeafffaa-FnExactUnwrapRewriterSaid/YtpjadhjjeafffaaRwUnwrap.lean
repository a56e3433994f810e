/- The law FnExactUnwrapRewriter, run: two texts by the kernel, all others step by step. -/
import Derived.Test.YtpjadhjjeafffaaRw
set_option linter.unusedVariables false
set_option linter.unusedSimpArgs false
set_option maxRecDepth 100000
namespace Go.Proofs.Ytpjadhjjeafffaa.OfUnwrap
open Aw

theorem kern_a : isT (evF fns rtB 1000 i_laws_FnExactUnwrapRewriter [str ⟨#[40]⟩] []) = true := by decide +kernel
theorem kern_b : isT (evF fns rtB 1000 i_laws_FnExactUnwrapRewriter [str ⟨#[91]⟩] []) = true := by decide +kernel
theorem ev_spec_no (s : ByteArray) (h1 : s ≠ ⟨#[40]⟩) (h2 : s ≠ ⟨#[91]⟩) : ev fns i_spec_UnwrapRewriter [str s] [] = some (.tup [zRw, i64 2], []) := by
  refine go_spec_UnwrapRewriter (by simp) ?_
  simp [ac_spec_UnwrapRewriter, h1, h2]
theorem ev_impl_no (s : ByteArray) (h1 : s ≠ ⟨#[40]⟩) (h2 : s ≠ ⟨#[91]⟩) : ev fns i_impl_UnwrapRewriter [str s] [] = some (.tup [zRw, i64 2], []) := by
  refine go_impl_UnwrapRewriter (by simp) ?_
  simp [ac_impl_UnwrapRewriter, h1, h2]
theorem ev_law (s : ByteArray) (fs : Siz.fits s) : ev fns i_laws_FnExactUnwrapRewriter [str s] [] = some (bol true, []) := by
  by_cases h1 : s = ⟨#[40]⟩
  · subst h1; exact ev_of_evF (isT_eq kern_a)
  · by_cases h2 : s = ⟨#[91]⟩
    · subst h2; exact ev_of_evF (isT_eq kern_b)
    · refine go_laws_FnExactUnwrapRewriter (by simp) ?_
      have e1 := ev_spec_no s h1 h2
      have e2 := ev_impl_no s h1 h2
      have e3 := ev_eq_zRw
      have e4 := ev_mark_zRw
      have e5 := ev_held_zRw
      by_cases hz : s.size ≤ 1048576
      · simp [ac_laws_FnExactUnwrapRewriter, show ¬ ((1048576 : Int) < s.size) by omega, e1, e2, e3, e4, e5]
      · simp [ac_laws_FnExactUnwrapRewriter, show ((1048576 : Int) < s.size) by omega]
end Go.Proofs.Ytpjadhjjeafffaa.OfUnwrap
