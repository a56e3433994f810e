/- Whether a checker takes a word: the program's and the reference's; the law FnExactTakes, run. -/
import Derived.Test.YtlahdcofclkjjaaRunC
set_option linter.unusedVariables false
set_option linter.unusedSimpArgs false
set_option maxRecDepth 100000
namespace Go.Proofs.Ytlahdcofclkjjaa
open Aw

def takesA (c : GChecker) (w : ByteArray) : Bool × Int := if okCk c = true ∧ okWord w = true then (takesC c w, 0) else (false, 1)
theorem okWord_symW {w : ByteArray} (h : okWord w = true) : symW w := by
  unfold okWord at h
  simp only [Bool.and_eq_true, List.all_eq_true, decide_eq_true_eq] at h
  exact h.1
theorem okWord_le {w : ByteArray} (h : okWord w = true) : w.size ≤ 60 := by
  unfold okWord at h
  simp only [Bool.and_eq_true, decide_eq_true_eq] at h
  exact h.2
theorem ev_impl_Takes (c : GChecker) (hz : Siz.size c ≤ 1048576) (w : ByteArray) (hw : w.size ≤ 1048576) : ev fns i_impl_Takes [c.v, str w] [] = some (.tup [bol (takesA c w).1, i64 (takesA c w).2], []) := by
  refine go_impl_Takes (by simp) ?_
  have h1 := ev_impl_ValidChecker c hz
  have h2 := ev_impl_ValidWord w (by omega)
  simp at h1 h2
  cases c1 : okCk c
  · rw [c1] at h1
    simp [ac_impl_Takes, h1, takesA, c1]
  · rw [c1] at h1
    cases c2 : okWord w
    · rw [c2] at h2
      simp [ac_impl_Takes, h1, h2, takesA, c1, c2]
    · rw [c2] at h2
      have h3 := ev_Checker_takes c c1 w (okWord_symW c2) (by have := okWord_le c2; omega)
      simp at h3
      simp [ac_impl_Takes, h1, h2, h3, takesA, c1, c2]
theorem ev_spec_l02Given (c : GChecker) (hz : Siz.size c ≤ 1048576) (w : ByteArray) (hw : w.size ≤ 1048576) : ev fns i_spec_l02Given [CkP c, str w] [] = some (i64 (if okCk c = true ∧ okWord w = true then 0 else 1), []) := by
  refine go_spec_l02Given (by simp) ?_
  have h1 := ev_spec_l02Ok c hz
  have h2 := ev_spec_l01Ok w (by omega)
  simp at h1 h2
  cases c1 : okCk c
  · rw [c1] at h1
    simp [ac_spec_l02Given, h1]
  · rw [c1] at h1
    cases c2 : okWord w
    · rw [c2] at h2
      simp [ac_spec_l02Given, h1, h2]
    · rw [c2] at h2
      simp [ac_spec_l02Given, h1, h2]
theorem ev_spec_Takes (c : GChecker) (hz : Siz.size c ≤ 1048576) (w : ByteArray) (hw : w.size ≤ 1048576) : ev fns i_spec_Takes [c.v, str w] [] = some (.tup [bol (takesA c w).1, i64 (takesA c w).2], []) := by
  refine go_spec_Takes (by simp) ?_
  have h1 := ev_spec_l02Given c hz w hw
  by_cases c1 : okCk c = true ∧ okWord w = true
  · rw [if_pos c1] at h1
    have h3 := ev_spec_l02Takes c c1.1 w (okWord_symW c1.2) (by have := okWord_le c1.2; omega)
    simp at h1 h3
    simp [ac_spec_Takes, h1, h3, takesA, c1]
  · rw [if_neg c1] at h1
    simp at h1
    unfold takesA
    rw [if_neg c1]
    simp [ac_spec_Takes, h1]
theorem ev_FnExactTakes (a : GChecker) (w : ByteArray) (fa : Siz.fits a) (fw : Siz.fits w) : ev fns i_laws_FnExactTakes [a.v, str w] [] = some (bol true, []) := by
  refine go_laws_FnExactTakes (by simp) ?_
  by_cases cw : (w.size : Int) ≤ 1048576
  · have e1 := ev_laws_szChecker a 1048576 (by omega) (by omega) fa
    by_cases c1 : (Siz.size a : Int) ≤ 1048576
    · rw [szR_ok c1] at e1
      have h1 := ev_laws_toChecker a (by omega)
      have h3 := ev_spec_Takes a (by omega) w (by omega)
      have h4 := ev_impl_Takes a (by omega) w (by omega)
      have h5 := ev_laws_eqChecker a a (by omega)
      simp at h1 h3 h4 h5
      simp [ac_laws_FnExactTakes, cw, show ¬ 1048576 < (w.size : Int) by omega, show ¬ 1048576 < w.size by omega, e1, show ¬ ((1048576 : Int) - Siz.size a < 0) by omega, h1, h3, h4, h5]
    · rw [szR_no (by omega)] at e1
      simp [ac_laws_FnExactTakes, cw, show ¬ 1048576 < (w.size : Int) by omega, show ¬ 1048576 < w.size by omega, e1]
  · simp [ac_laws_FnExactTakes, show 1048576 < (w.size : Int) by omega, show 1048576 < w.size by omega]
end Go.Proofs.Ytlahdcofclkjjaa
