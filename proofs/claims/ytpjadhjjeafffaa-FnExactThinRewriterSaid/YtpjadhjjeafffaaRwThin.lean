/- The law FnExactThinRewriter, run: two texts by the kernel, all others step by step. -/
import Derived.Test.YtpjadhjjeafffaaRw
set_option linter.unusedVariables false
set_option linter.unusedSimpArgs false
set_option maxRecDepth 100000
namespace Go.Proofs.Ytpjadhjjeafffaa.OfThin
open Aw

theorem kern_a : isT (evF fns rtB 1000 i_laws_FnExactThinRewriter [str ⟨#[97]⟩] []) = true := by decide +kernel
theorem kern_b : isT (evF fns rtB 1000 i_laws_FnExactThinRewriter [str ⟨#[98]⟩] []) = true := by decide +kernel
theorem ev_spec_l06Letter_no (s : ByteArray) (h1 : s ≠ ⟨#[97]⟩) (h2 : s ≠ ⟨#[98]⟩) : ev fns i_spec_l06Letter [str s] [] = some (i64 (-1), []) := by
  refine go_spec_l06Letter (by simp) ?_
  simp [ac_spec_l06Letter, h1, h2]
theorem ev_spec_no (s : ByteArray) (h1 : s ≠ ⟨#[97]⟩) (h2 : s ≠ ⟨#[98]⟩) : ev fns i_spec_ThinRewriter [str s] [] = some (.tup [zRw, i64 2], []) := by
  refine go_spec_ThinRewriter (by simp) ?_
  have h := ev_spec_l06Letter_no s h1 h2
  simp at h
  simp [ac_spec_ThinRewriter, h]
theorem ev_impl_no (s : ByteArray) (h1 : s ≠ ⟨#[97]⟩) (h2 : s ≠ ⟨#[98]⟩) : ev fns i_impl_ThinRewriter [str s] [] = some (.tup [zRw, i64 2], []) := by
  refine go_impl_ThinRewriter (by simp) ?_
  have hL : isLet s = false := by simp [isLet, h1, h2]
  simp [ac_impl_ThinRewriter, hL]
theorem ev_law (s : ByteArray) (fs : Siz.fits s) : ev fns i_laws_FnExactThinRewriter [str s] [] = some (bol true, []) := by
  by_cases h1 : s = ⟨#[97]⟩
  · subst h1; exact ev_of_evF (isT_eq kern_a)
  · by_cases h2 : s = ⟨#[98]⟩
    · subst h2; exact ev_of_evF (isT_eq kern_b)
    · refine go_laws_FnExactThinRewriter (by simp) ?_
      have e1 := ev_spec_no s h1 h2
      have e2 := ev_impl_no s h1 h2
      have e3 := ev_eq_zRw
      have e4 := ev_mark_zRw
      have e5 := ev_held_zRw
      by_cases hz : s.size ≤ 1048576
      · simp [ac_laws_FnExactThinRewriter, show ¬ ((1048576 : Int) < s.size) by omega, e1, e2, e3, e4, e5]
      · simp [ac_laws_FnExactThinRewriter, show ((1048576 : Int) < s.size) by omega]
end Go.Proofs.Ytpjadhjjeafffaa.OfThin
