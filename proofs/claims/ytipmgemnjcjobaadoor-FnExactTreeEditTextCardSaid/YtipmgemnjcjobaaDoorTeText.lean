/- The texts of edits: the program's and the reference's; the law FnExactTreeEditText, run. -/
import Derived.Test.YtipmgemnjcjobaaDoorDecText
set_option linter.unusedVariables false
set_option linter.unusedSimpArgs false
set_option maxRecDepth 100000

namespace Go.Proofs.YtipmgemnjcjobaaDoor
open Aw
abbrev spT : ByteArray := ⟨#[32]⟩
/-- The text of a valid edit. -/
def teT (e : GTreeEdit) : ByteArray :=
  let o1 := formW e.kind ++ spT ++ decT e.at_.toNat
  let o2 := if formTo e.kind = true then o1 ++ (spT ++ decT e.to.toNat) else o1
  if formTx e.kind = true then o2 ++ (spT ++ (if e.text = ⟨#[]⟩ then ⟨#[45]⟩ else e.text)) else o2
def teA (e : GTreeEdit) : ByteArray := if okEdit e = true then teT e else ⟨#[]⟩
theorem okEdit_facts {e : GTreeEdit} (h : okEdit e = true) : (e.kind = 1 ∨ e.kind = 2 ∨ e.kind = 3 ∨ e.kind = 4 ∨ e.kind = 5) ∧ (∃ a : Nat, e.at_ = a ∧ a < 100) ∧ ∃ b : Nat, e.to = b ∧ b < 100 := by
  unfold okEdit at h
  simp only [inR, Bool.and_eq_true, decide_eq_true_eq] at h
  obtain ⟨⟨⟨⟨h1, h2⟩, h3⟩, -⟩, -⟩ := h
  exact ⟨by omega, ⟨e.at_.toNat, by omega, by omega⟩, ⟨e.to.toNat, by omega, by omega⟩⟩
set_option maxHeartbeats 8000000 in
theorem ev_impl_TreeEditText (e : GTreeEdit) (hz : e.text.size ≤ 1048576) : ev fns i_impl_TreeEditText [e.v] [] = some (str (teA e), []) := by
  refine go_impl_TreeEditText (by simp) ?_
  have hv := ev_impl_ValidTreeEdit e hz
  unfold teA
  cases c : okEdit e
  · rw [c] at hv
    simp at hv
    simp [ac_impl_TreeEditText, hv]
    done
  · rw [c] at hv
    obtain ⟨hk, ⟨a, ha, ha1⟩, ⟨b, hb, hb1⟩⟩ := okEdit_facts c
    have h1 := ev_decimal a ha1
    have h2 := ev_decimal b hb1
    have z1 := decT_size a
    have z2 := decT_size b
    obtain ⟨kind, at_, to, text⟩ := e
    simp only at hk ha hb hz
    subst ha; subst hb
    simp at hv h1 h2
    unfold teT
    have q1 : (⟨#[32]⟩ : ByteArray).size = 1 := rfl
    have q2 : (⟨#[45]⟩ : ByteArray).size = 1 := rfl
    have hf : (formW kind).size ≤ 4 := by rcases hk with rfl | rfl | rfl | rfl | rfl <;> decide
    have c1 : (formW kind).size + (⟨#[32]⟩ : ByteArray).size ≤ 9223372036854775807 := by omega
    have c2 : (formW kind).size + (⟨#[32]⟩ : ByteArray).size + (decT a).size ≤ 9223372036854775807 := by omega
    have c3 : (⟨#[32]⟩ : ByteArray).size + (decT b).size ≤ 9223372036854775807 := by omega
    have c4 : (formW kind).size + (⟨#[32]⟩ : ByteArray).size + (decT a).size + ((⟨#[32]⟩ : ByteArray).size + (decT b).size) ≤ 9223372036854775807 := by omega
    have c5 : (⟨#[32]⟩ : ByteArray).size + text.size ≤ 9223372036854775807 := by omega
    have c6 : (⟨#[32]⟩ : ByteArray).size + (⟨#[45]⟩ : ByteArray).size ≤ 9223372036854775807 := by omega
    have c7 : (formW kind).size + (⟨#[32]⟩ : ByteArray).size + (decT a).size + ((⟨#[32]⟩ : ByteArray).size + text.size) ≤ 9223372036854775807 := by omega
    have c8 : (formW kind).size + (⟨#[32]⟩ : ByteArray).size + (decT a).size + ((⟨#[32]⟩ : ByteArray).size + (⟨#[45]⟩ : ByteArray).size) ≤ 9223372036854775807 := by omega
    have c9 : (formW kind).size + (⟨#[32]⟩ : ByteArray).size + (decT a).size + ((⟨#[32]⟩ : ByteArray).size + (decT b).size) + ((⟨#[32]⟩ : ByteArray).size + text.size) ≤ 9223372036854775807 := by omega
    have c10 : (formW kind).size + (⟨#[32]⟩ : ByteArray).size + (decT a).size + ((⟨#[32]⟩ : ByteArray).size + (decT b).size) + ((⟨#[32]⟩ : ByteArray).size + (⟨#[45]⟩ : ByteArray).size) ≤ 9223372036854775807 := by omega
    rw [if_pos rfl]
    by_cases ht : text = ⟨#[]⟩
    · rcases hk with rfl | rfl | rfl | rfl | rfl <;> simp [ac_impl_TreeEditText, hv, h1, h2, formTo, formTx, c1, c2, c3, c4, c5, c6, c7, c8, c9, c10, eq_true ht]
      done
    · rcases hk with rfl | rfl | rfl | rfl | rfl <;> simp [ac_impl_TreeEditText, hv, h1, h2, formTo, formTx, c1, c2, c3, c4, c5, c6, c7, c8, c9, c10, ht]
      done
set_option maxHeartbeats 8000000 in
theorem ev_spec_TreeEditText (e : GTreeEdit) (hz : e.text.size ≤ 1048576) : ev fns i_spec_TreeEditText [e.v] [] = some (str (teA e), []) := by
  refine go_spec_TreeEditText (by simp) ?_
  have hv := ev_spec_l06Edit e hz
  unfold teA
  cases c : okEdit e
  · rw [c] at hv
    simp at hv
    simp [ac_spec_TreeEditText, hv]
    done
  · rw [c] at hv
    have ht : ev fns i_spec_l06Text [.fptr [i64 e.kind, i64 e.at_, i64 e.to, str e.text] 0] [] = some (str (teT e), []) := by
      obtain ⟨hk, ⟨a, ha, ha1⟩, ⟨b, hb, hb1⟩⟩ := okEdit_facts c
      have h1 := ev_Decimal a ha1
      have h2 := ev_Decimal b hb1
      have z1 := decT_size a
      have z2 := decT_size b
      obtain ⟨kind, at_, to, text⟩ := e
      simp only at hk ha hb hz
      subst ha; subst hb
      have hn : ev fns i_spec_l06Names [] [] = some (.list 1 [str ⟨#[]⟩, str (formW 1), str (formW 2), str (formW 3), str (formW 4), str (formW 5)] false, []) := by
        refine go_spec_l06Names (by simp) ?_
        simp [ac_spec_l06Names, formW, dfr, mapO]
      refine go_spec_l06Text (by simp) ?_
      simp at h1 h2 hn
      unfold teT
      have q1 : (⟨#[32]⟩ : ByteArray).size = 1 := rfl
      have q2 : (⟨#[45]⟩ : ByteArray).size = 1 := rfl
      have q3 : (⟨#[32, 45]⟩ : ByteArray).size = 2 := rfl
      have q4 : (⟨#[32]⟩ : ByteArray) ++ ⟨#[45]⟩ = ⟨#[32, 45]⟩ := rfl
      have hf : (formW kind).size ≤ 4 := by rcases hk with rfl | rfl | rfl | rfl | rfl <;> decide
      have c1 : (formW kind).size + (⟨#[32]⟩ : ByteArray).size ≤ 9223372036854775807 := by omega
      have c2 : (formW kind).size + (⟨#[32]⟩ : ByteArray).size + (decT a).size ≤ 9223372036854775807 := by omega
      have c3 : (⟨#[32]⟩ : ByteArray).size + (decT b).size ≤ 9223372036854775807 := by omega
      have c4 : (formW kind).size + (⟨#[32]⟩ : ByteArray).size + (decT a).size + ((⟨#[32]⟩ : ByteArray).size + (decT b).size) ≤ 9223372036854775807 := by omega
      have c5 : (⟨#[32]⟩ : ByteArray).size + text.size ≤ 9223372036854775807 := by omega
      have c7 : (formW kind).size + (⟨#[32]⟩ : ByteArray).size + (decT a).size + ((⟨#[32]⟩ : ByteArray).size + text.size) ≤ 9223372036854775807 := by omega
      have c8 : (formW kind).size + (⟨#[32]⟩ : ByteArray).size + (decT a).size + (⟨#[32, 45]⟩ : ByteArray).size ≤ 9223372036854775807 := by omega
      have c9 : (formW kind).size + (⟨#[32]⟩ : ByteArray).size + (decT a).size + ((⟨#[32]⟩ : ByteArray).size + (decT b).size) + ((⟨#[32]⟩ : ByteArray).size + text.size) ≤ 9223372036854775807 := by omega
      have c10 : (formW kind).size + (⟨#[32]⟩ : ByteArray).size + (decT a).size + ((⟨#[32]⟩ : ByteArray).size + (decT b).size) + (⟨#[32, 45]⟩ : ByteArray).size ≤ 9223372036854775807 := by omega
      by_cases ht : text = ⟨#[]⟩
      · rcases hk with rfl | rfl | rfl | rfl | rfl <;> simp [ac_spec_l06Text, hn, h1, h2, formTo, formTx, c1, c2, c3, c4, c5, c7, c8, c9, c10, q4, eq_true ht]
        done
      · rcases hk with rfl | rfl | rfl | rfl | rfl <;> simp [ac_spec_l06Text, hn, h1, h2, formTo, formTx, c1, c2, c3, c4, c5, c7, c8, c9, c10, ht]
        done
    simp at hv ht
    simp [ac_spec_TreeEditText, hv, ht]
theorem ev_FnExactTreeEditText (a : GTreeEdit) (fa : Siz.fits a) : ev fns i_laws_FnExactTreeEditText [a.v] [] = some (bol true, []) := by
  refine go_laws_FnExactTreeEditText (by simp) ?_
  have e1 := ev_laws_szTreeEdit a 1048576 (by omega) (by omega) fa
  rw [size_TreeEdit, size_str] at e1
  by_cases c1 : (a.text.size : Int) ≤ 1048576
  · rw [szR_ok c1] at e1
    have h1 := ev_laws_toTreeEdit a (by rw [size_TreeEdit, size_str]; omega)
    have h3 := ev_spec_TreeEditText a (by omega)
    have h4 := ev_impl_TreeEditText a (by omega)
    simp at h1 h3 h4
    simp [ac_laws_FnExactTreeEditText, e1, show ¬ ((1048576 : Int) - a.text.size < 0) by omega, h1, h3, h4]
  · rw [szR_no (by omega)] at e1
    simp [ac_laws_FnExactTreeEditText, e1]
end Go.Proofs.YtipmgemnjcjobaaDoor
