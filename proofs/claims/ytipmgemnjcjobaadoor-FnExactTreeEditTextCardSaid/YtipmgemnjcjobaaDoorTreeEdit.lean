/- Validity of edits: the program's and the reference's. -/
import Derived.Test.YtipmgemnjcjobaaDoorWord2
set_option linter.unusedVariables false
set_option linter.unusedSimpArgs false
set_option maxRecDepth 100000
namespace Go.Proofs.YtipmgemnjcjobaaDoor
open Aw

def formW (k : Int) : ByteArray := if k = 1 then ⟨#[112, 117, 116]⟩ else if k = 2 then ⟨#[99, 117, 116]⟩ else if k = 3 then ⟨#[111, 112, 101, 110]⟩ else if k = 4 then ⟨#[119, 114, 97, 112]⟩ else if k = 5 then ⟨#[110, 97, 109, 101]⟩ else ⟨#[]⟩
def formTo (k : Int) : Bool := decide (k = 4)
def formTx (k : Int) : Bool := decide (k = 1) || decide (k = 4) || decide (k = 5)
@[simp] theorem ev_impl_treeFormOf (k : Int) : ev fns i_impl_treeFormOf [i64 k] [] = some (.tup [.agg [str (formW k), bol (formTo k), bol (formTx k)], bol (inR k 1 5)], []) := by
  refine go_impl_treeFormOf (by simp) ?_
  by_cases h1 : k = 1
  · subst h1; simp [ac_impl_treeFormOf, putParts, formW, formTo, formTx, inR]
  · by_cases h2 : k = 2
    · subst h2; simp [ac_impl_treeFormOf, putParts, formW, formTo, formTx, inR]
    · by_cases h3 : k = 3
      · subst h3; simp [ac_impl_treeFormOf, putParts, formW, formTo, formTx, inR]
      · by_cases h4 : k = 4
        · subst h4; simp [ac_impl_treeFormOf, putParts, formW, formTo, formTx, inR]
        · by_cases h5 : k = 5
          · subst h5; simp [ac_impl_treeFormOf, putParts, formW, formTo, formTx, inR]
          · simp [ac_impl_treeFormOf, putParts, formW, formTo, formTx, inR, h1, h2, h3, h4, h5]; omega

/-- Is the edit valid? -/
def okEdit (e : GTreeEdit) : Bool := inR e.kind 1 5 && inR e.at_ 0 60 && inR e.to 0 60 && (decide (e.kind = 4) || decide (e.to = 0)) &&
  (if e.kind = 1 then okWord e.text && isM e.text else if e.kind = 4 ∨ e.kind = 5 then isBrk e.text else decide (e.text = ⟨#[]⟩))
theorem kind_cases {k : Int} (h : inR k 1 5 = true) : k = 1 ∨ k = 2 ∨ k = 3 ∨ k = 4 ∨ k = 5 := by simp [inR] at h; omega
@[simp] theorem ev_impl_ValidTreeEdit (e : GTreeEdit) (hz : e.text.size ≤ 1048576) : ev fns i_impl_ValidTreeEdit [e.v] [] = some (bol (okEdit e), []) := by
  refine go_impl_ValidTreeEdit (by simp) ?_
  obtain ⟨kind, at_, to, text⟩ := e
  simp only at hz
  have v1 := ev_impl_ValidWord text (by omega)
  have v2 := ev_impl_isMatched text hz
  unfold okEdit
  cases h1 : inR kind 1 5
  · simp [ac_impl_ValidTreeEdit, h1]
  · cases h2 : inR at_ 0 60
    · simp [ac_impl_ValidTreeEdit, h1, h2]
    · cases h3 : inR to 0 60
      · simp [ac_impl_ValidTreeEdit, h1, h2, h3]
      · rcases kind_cases h1 with rfl | rfl | rfl | rfl | rfl
        · by_cases h4 : to = 0
          · subst h4; cases h5 : okWord text <;> simp [ac_impl_ValidTreeEdit, h1, h2, h3, h5, formTo, formTx, v1, v2]
          · simp [ac_impl_ValidTreeEdit, h1, h2, h3, h4, formTo, formTx, v1, v2]
        · by_cases h4 : to = 0
          · subst h4; simp [ac_impl_ValidTreeEdit, h1, h2, h3, formTo, formTx, v1, v2]
          · simp [ac_impl_ValidTreeEdit, h1, h2, h3, h4, formTo, formTx, v1, v2]
        · by_cases h4 : to = 0
          · subst h4; simp [ac_impl_ValidTreeEdit, h1, h2, h3, formTo, formTx, v1, v2]
          · simp [ac_impl_ValidTreeEdit, h1, h2, h3, h4, formTo, formTx, v1, v2]
        · simp [ac_impl_ValidTreeEdit, h1, h2, h3, formTo, formTx, v1, v2]
        · by_cases h4 : to = 0
          · subst h4; simp [ac_impl_ValidTreeEdit, h1, h2, h3, formTo, formTx, v1, v2]
          · simp [ac_impl_ValidTreeEdit, h1, h2, h3, h4, formTo, formTx, v1, v2]
@[simp] theorem ev_spec_l06Edit (e : GTreeEdit) (hz : e.text.size ≤ 1048576) : ev fns i_spec_l06Edit [.fptr [i64 e.kind, i64 e.at_, i64 e.to, str e.text] 0] [] = some (bol (okEdit e), []) := by
  refine go_spec_l06Edit (by simp) ?_
  obtain ⟨kind, at_, to, text⟩ := e
  simp only at hz
  have v1 := ev_spec_l01Ok text (by omega)
  have v2 := ev_spec_l01Matched text hz
  unfold okEdit
  cases h1 : inR kind 1 5
  · simp [ac_spec_l06Edit, h1]
  · cases h2 : inR at_ 0 60
    · simp [ac_spec_l06Edit, h1, h2]
    · cases h3 : inR to 0 60
      · simp [ac_spec_l06Edit, h1, h2, h3]
      · rcases kind_cases h1 with rfl | rfl | rfl | rfl | rfl
        · by_cases h4 : to = 0
          · subst h4; cases h5 : okWord text <;> simp [ac_spec_l06Edit, h1, h2, h3, h5, v1, v2]
          · simp [ac_spec_l06Edit, h1, h2, h3, h4, v1, v2]
        · by_cases h4 : to = 0
          · subst h4; simp [ac_spec_l06Edit, h1, h2, h3, v1, v2]
          · simp [ac_spec_l06Edit, h1, h2, h3, h4, v1, v2]
        · by_cases h4 : to = 0
          · subst h4; simp [ac_spec_l06Edit, h1, h2, h3, v1, v2]
          · simp [ac_spec_l06Edit, h1, h2, h3, h4, v1, v2]
        · simp [ac_spec_l06Edit, h1, h2, h3, v1, v2]
        · by_cases h4 : to = 0
          · subst h4; simp [ac_spec_l06Edit, h1, h2, h3, v1, v2]
          · simp [ac_spec_l06Edit, h1, h2, h3, h4, v1, v2]
end Go.Proofs.YtipmgemnjcjobaaDoor
