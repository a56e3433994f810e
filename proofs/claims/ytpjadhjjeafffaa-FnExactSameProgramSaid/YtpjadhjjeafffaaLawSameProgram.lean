/- The law FnExactSameProgram, run. -/
import Derived.Test.YtpjadhjjeafffaaSameProgram
set_option linter.unusedVariables false
set_option linter.unusedSimpArgs false
set_option maxRecDepth 100000
namespace Go.Proofs.Ytpjadhjjeafffaa
open Aw

theorem ev_FnExactSameProgram (a b : GProgram) (fa : Siz.fits a) (fb : Siz.fits b) : ev fns i_laws_FnExactSameProgram [a.v, b.v] [] = some (bol true, []) := by
  refine go_laws_FnExactSameProgram (by simp) ?_
  have e1 := ev_laws_szProgram a 1048576 (by omega) (by omega) fa
  by_cases c1 : (Siz.size a : Int) ≤ 1048576
  · rw [szR_ok c1] at e1
    have e2 := ev_laws_szProgram b (1048576 - Siz.size a) (by omega) (by omega) fb
    by_cases c2 : (Siz.size b : Int) ≤ 1048576 - Siz.size a
    · rw [szR_ok c2] at e2
      have h1 := ev_laws_toProgram a (by omega)
      have h2 := ev_laws_toProgram b (by omega)
      have h3 := ev_spec_SameProgram a b (by omega)
      have h4 := ev_impl_SameProgram a b (by omega)
      have h5 := ev_laws_eqProgram a a (by omega)
      have h6 := ev_laws_eqProgram b b (by omega)
      simp [rc1, ac_laws_FnExactSameProgram, e1, e2, show ¬ ((1048576 : Int) - Siz.size a < 0) by omega, show ¬ ((1048576 : Int) - Siz.size a - Siz.size b < 0) by omega, h1, h2, h3, h4, h5, h6]
    · rw [szR_no (by omega)] at e2
      simp [ac_laws_FnExactSameProgram, e1, e2, show ¬ ((1048576 : Int) - Siz.size a < 0) by omega]
  · rw [szR_no (by omega)] at e1
    simp [ac_laws_FnExactSameProgram, e1]
end Go.Proofs.Ytpjadhjjeafffaa
