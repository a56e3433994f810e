/- Whether choices take a word; the law FnExactChoicesTake, run. -/
import Derived.Test.YtegjfjckijmgcaaSpKnown
import Derived.Test.YtegjfjckijmgcaaOpnD
set_option linter.unusedVariables false
set_option linter.unusedSimpArgs false
set_option maxRecDepth 100000
namespace Go.Proofs.Ytegjfjckijmgcaa
open Aw
def ctA (m : GChoices) (w : ByteArray) : Bool × Int := if okCh m = true ∧ okWord w = true then (takK m (knK m w), 0) else (false, 1)
theorem ev_impl_ChoicesTake (m : GChoices) (hz : Siz.size m ≤ 1048576) (w : ByteArray) (hw : w.size ≤ 1048576) : ev fns i_impl_ChoicesTake [m.v, str w] [] = some (.tup [bol (ctA m w).1, i64 (ctA m w).2], []) := by
  refine go_impl_ChoicesTake (by simp) ?_
  have h1 := ev_impl_ValidChoices m hz
  have h2 := ev_impl_ValidWord w (by omega)
  simp at h1 h2
  cases c1 : okCh m
  · rw [c1] at h1
    simp [ac_impl_ChoicesTake, h1, ctA, c1]
  · rw [c1] at h1
    cases c2 : okWord w
    · rw [c2] at h2
      simp [ac_impl_ChoicesTake, h1, h2, ctA, c1, c2]
    · rw [c2] at h2
      have h3 := ev_Choices_known c1 hz w (okWord_symK c2) (by have := okWord_leK c2; omega)
      have h4 := ev_isTaken c1 (knK_ok c1 w)
      simp [Vw.u] at h3 h4
      simp [ac_impl_ChoicesTake, h1, h2, h3, h4, ctA, c1, c2]
theorem ev_spec_ChoicesTake (m : GChoices) (hz : Siz.size m ≤ 1048576) (w : ByteArray) (hw : w.size ≤ 1048576) : ev fns i_spec_ChoicesTake [m.v, str w] [] = some (.tup [bol (ctA m w).1, i64 (ctA m w).2], []) := by
  refine go_spec_ChoicesTake (by simp) ?_
  have h1 := ev_spec_l03Given m hz w hw
  by_cases c1 : okCh m = true ∧ okWord w = true
  · rw [if_pos c1] at h1
    have h3 := ev_spec_l03Run c1.1 hz w (okWord_symK c1.2) (by have := okWord_leK c1.2; omega)
    have h4 := ev_spec_l03Accepts c1.1 (knK_ok c1.1 w).e
    simp [Vw.i] at h1 h3 h4
    simp [ac_spec_ChoicesTake, h1, h3, h4, ctA, c1, takK]
  · rw [if_neg c1] at h1
    simp at h1
    unfold ctA
    rw [if_neg c1]
    simp [ac_spec_ChoicesTake, h1]
theorem ev_FnExactChoicesTake (a : GChoices) (w : ByteArray) (fa : Siz.fits a) (fw : Siz.fits w) : ev fns i_laws_FnExactChoicesTake [a.v, str w] [] = some (bol true, []) := by
  refine go_laws_FnExactChoicesTake (by simp) ?_
  by_cases cw : (w.size : Int) ≤ 1048576
  · have e1 := ev_laws_szChoices a 1048576 (by omega) (by omega) fa
    by_cases c1 : (Siz.size a : Int) ≤ 1048576
    · rw [szR_ok c1] at e1
      have h1 := ev_laws_toChoices a (by omega)
      have h3 := ev_spec_ChoicesTake a (by omega) w (by omega)
      have h4 := ev_impl_ChoicesTake a (by omega) w (by omega)
      have h5 := ev_laws_eqChoices a a (by omega)
      simp at h1 h3 h4 h5
      simp [ac_laws_FnExactChoicesTake, cw, show ¬ 1048576 < (w.size : Int) by omega, show ¬ 1048576 < w.size by omega, e1, show ¬ ((1048576 : Int) - Siz.size a < 0) by omega, h1, h3, h4, h5]
    · rw [szR_no (by omega)] at e1
      simp [ac_laws_FnExactChoicesTake, cw, show ¬ 1048576 < (w.size : Int) by omega, show ¬ 1048576 < w.size by omega, e1]
  · simp [ac_laws_FnExactChoicesTake, show 1048576 < (w.size : Int) by omega, show 1048576 < w.size by omega]
end Go.Proofs.Ytegjfjckijmgcaa
