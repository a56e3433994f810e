/- What StatesAfter returns: the reference and the program. -/
import Derived.Test.YtegjfjckijmgcaaSpKnown
import Derived.Test.YtegjfjckijmgcaaLwC
set_option linter.unusedVariables false
set_option linter.unusedSimpArgs false
set_option maxRecDepth 100000
namespace Go.Proofs.Ytegjfjckijmgcaa
open Aw
/-- What StatesAfter returns. -/
def saA (m : GChoices) (w : ByteArray) : List Int × Int := if okCh m = true ∧ okWord w = true then (stN (knK m w).e, 0) else ([], 1)
theorem spC_StatesAfter (m : GChoices) (hz : Siz.size m ≤ 1048576) (w : ByteArray) (hw : w.size ≤ 1048576) : ∃ q, ev fns i_spec_StatesAfter [m.v, str w] [] = some (.tup [q, i64 (saA m w).2], []) ∧ q.bel 0 = true ∧ PV.ty (Own.sh (List Int)) q = Enc.pv (saA m w).1 := by
  have hw' : w.size ≤ 1048576 := hw
  have h1 := ev_spec_l03Given m hz w hw'
  unfold saA
  by_cases c1 : okCh m = true ∧ okWord w = true
  · rw [if_pos c1] at h1
    have h3 := ev_spec_l03Run c1.1 hz w (okWord_symK c1.2) (by have := okWord_leK c1.2; omega)
    have h4 := ev_spec_l03List (pow32 (okCh_n c1.1).2.1 (knK_ok c1.1 w).e)
    rw [if_pos c1]
    refine ⟨lst 1 (stN (knK m w).e), go_spec_StatesAfter (by simp) ?_, by simp, by show PV.ty (.lst 1 .any) (lst 1 (stN (knK m w).e)) = lst 1 (stN (knK m w).e); simp⟩
    simp [Vw.i] at h1 h3 h4
    simp [ac_spec_StatesAfter, h1, h3, h4]
  · rw [if_neg c1] at h1
    rw [if_neg c1]
    refine ⟨.list 1 [] true, go_spec_StatesAfter (by simp) ?_, rfl, rfl⟩
    simp at h1
    simp [ac_spec_StatesAfter, h1]
theorem imC_StatesAfter (m : GChoices) (hz : Siz.size m ≤ 1048576) (w : ByteArray) (hw : w.size ≤ 1048576) : ∃ q τ ids, ev fns i_impl_StatesAfter [m.v, str w] [] = some (.tup [q, i64 (saA m w).2], τ) ∧ OwnIn τ ids q (saA m w).1 ∧ GoodN τ := by
  have hw' : w.size ≤ 1048576 := hw
  have h1 := ev_impl_ValidChoices m hz
  have h2 := ev_impl_ValidWord w (by omega)
  simp at h1 h2
  unfold saA
  by_cases c1 : okCh m = true ∧ okWord w = true
  · rw [c1.1] at h1
    rw [c1.2] at h2
    rw [if_pos c1]
    have h3 := ev_Choices_known c1.1 hz w (okWord_symK c1.2) (by have := okWord_leK c1.2; omega)
    have h4 := ev_impl_states (pow32 (okCh_n c1.1).2.1 (knK_ok c1.1 w).e)
    have hl := stN_len (knK m w).e
    refine ⟨.own 0 0 0 (stN (knK m w).e).length, [.row 1 ((stN (knK m w).e).map Enc.pv) 0], [0], go_impl_StatesAfter (by simp) ?_, ⟨own_flat _ rfl (by omega), by simp, by simp⟩, goodN_intsL _⟩
    simp [Vw.u] at h3 h4
    simp [ac_impl_StatesAfter, h1, h2, h3, h4, nvRow, PV.bels]
  · rw [if_neg c1]
    refine ⟨.val (.slice none 0 0), [], [], go_impl_StatesAfter (by simp) ?_, own_nilL, GoodN.nil⟩
    cases c2 : okCh m
    · rw [c2] at h1
      simp [ac_impl_StatesAfter, h1]
    · rw [c2] at h1
      cases c3 : okWord w
      · rw [c3] at h2
        simp [ac_impl_StatesAfter, h1, h2]
      · exact absurd ⟨c2, c3⟩ c1
theorem leC_StatesAfter (m : GChoices) (hz : Siz.size m ≤ 1048576) (w : ByteArray) (hw : w.size ≤ 1048576) : Siz.size (saA m w).1 ≤ 1048576 := by
  unfold saA
  split
  · rw [Siz.size_flat_int]; have := stN_len (knK m w).e; simp only; omega
  · simp [Siz.size_list, Siz.sum]
end Go.Proofs.Ytegjfjckijmgcaa
