/- More loops: over numbers, and over states of which only something is known. -/
import Derived.Test.YtoliadfdklfmfaaLoops
set_option linter.unusedVariables false
set_option linter.unusedSimpArgs false
namespace Go.Proofs.Ytoliadfdklfmfaa

/-- Numbers below n: all of them, or the end. -/
theorem loop_below {β : Type} {F : Nat → β} {n : Nat} {p : Nat → Bool} {e r : β} (hs : ∀ k, k < n → (p k = true → F k = F (k + 1)) ∧ (p k = false → F k = r)) (he : F n = e) :
    F 0 = if (List.range n).all p = true then e else r := by
  obtain ⟨h1, h2⟩ := loop_all (F := F) (p := fun k => p k = true) (n := n) (e := e) (r := r) (fun k h => by
    obtain ⟨q1, q2⟩ := hs k h
    exact ⟨q1, fun hp => q2 (by simpa using hp)⟩) he 0 (Nat.zero_le _)
  split
  · rename_i ha
    rw [List.all_eq_true] at ha
    exact h1 fun i _ hi => ha i (List.mem_range.2 hi)
  · rename_i ha
    refine h2 ?_
    apply Classical.byContradiction
    intro hn
    refine ha (List.all_eq_true.2 fun i hi => ?_)
    apply Classical.byContradiction
    intro h3
    exact hn ⟨i, Nat.zero_le _, List.mem_range.1 hi, h3⟩

/-- A state of which only something is known. -/
theorem loop_known {β S : Type} {F : Nat → S → β} {n : Nat} (I : Nat → S → Prop) (hs : ∀ k s, k < n → I k s → ∃ s', F k s = F (k + 1) s' ∧ I (k + 1) s') {s : S} (h0 : I 0 s) :
    ∃ s', F 0 s = F n s' ∧ I n s' := by
  have key : ∀ k, k ≤ n → ∃ s', F 0 s = F k s' ∧ I k s' := by
    intro k
    induction k with
    | zero => intro _; exact ⟨s, rfl, h0⟩
    | succ k ih =>
      intro h
      obtain ⟨s1, e1, i1⟩ := ih (by omega)
      obtain ⟨s2, e2, i2⟩ := hs k s1 (by omega) i1
      exact ⟨s2, e1.trans e2, i2⟩
  exact key n (Nat.le_refl _)

/-- Numbers below n, taken into a state. -/
theorem loop_nfold {β S : Type} {F : Nat → S → β} {n : Nat} {f : S → Nat → S} (I : Nat → S → Prop) (hs : ∀ k s, k < n → I k s → F k s = F (k + 1) (f s k) ∧ I (k + 1) (f s k)) {s : S} (h0 : I 0 s) :
    F 0 s = F n ((List.range n).foldl f s) ∧ I n ((List.range n).foldl f s) := by
  have key : ∀ k, k ≤ n → F 0 s = F k ((List.range k).foldl f s) ∧ I k ((List.range k).foldl f s) := by
    intro k
    induction k with
    | zero => intro _; exact ⟨rfl, h0⟩
    | succ k ih =>
      intro h
      obtain ⟨e1, i1⟩ := ih (by omega)
      obtain ⟨e2, i2⟩ := hs k _ (by omega) i1
      rw [List.range_succ, List.foldl_append]
      exact ⟨e1.trans e2, i2⟩
  exact key n (Nat.le_refl _)

/-- A list, taken into a state, until it fails. -/
def tryFold {α S R : Type} (f : S → α → S ⊕ R) : S → List α → S ⊕ R
  | s, [] => .inl s
  | s, x :: xs => match f s x with
    | .inl s' => tryFold f s' xs
    | .inr r => .inr r
theorem loop_try {α β S R : Type} {F : Nat → S → β} {ls : List α} {f : S → α → S ⊕ R} {out : R → β} (I : Nat → S → Prop)
    (hs : ∀ k s (h : k < ls.length), I k s → (∀ s', f s ls[k] = .inl s' → F k s = F (k + 1) s' ∧ I (k + 1) s') ∧ (∀ r, f s ls[k] = .inr r → F k s = out r)) {s : S} (h0 : I 0 s) :
    (∀ s', tryFold f s ls = .inl s' → F 0 s = F ls.length s' ∧ I ls.length s') ∧ (∀ r, tryFold f s ls = .inr r → F 0 s = out r) := by
  have key : ∀ (suf pre : List α) (s : S), ls = pre ++ suf → I pre.length s → (∀ s', tryFold f s suf = .inl s' → F pre.length s = F ls.length s' ∧ I ls.length s') ∧ (∀ r, tryFold f s suf = .inr r → F pre.length s = out r) := by
    intro suf
    induction suf with
    | nil => intro pre s h hi; simp at h; subst h; exact ⟨fun s' h => by simp [tryFold] at h; subst h; exact ⟨rfl, hi⟩, fun r h => by simp [tryFold] at h⟩
    | cons x suf ih =>
      intro pre s h hi
      have m := Aw.mid h
      obtain ⟨k1, k2⟩ := hs pre.length s m.1 hi
      rw [m.2.2] at k1 k2
      unfold tryFold
      cases hf : f s x with
      | inl s1 =>
        obtain ⟨e1, i1⟩ := k1 s1 hf
        have := ih (pre ++ [x]) s1 (by simp [h]) (by simpa using i1)
        simp only [List.length_append, List.length_cons, List.length_nil, Nat.zero_add] at this
        rw [e1]
        exact this
      | inr r =>
        refine ⟨fun s' h => (nomatch h), fun r' h => ?_⟩
        injection h with h; subst h
        exact k2 r hf
  exact key ls [] s rfl h0
end Go.Proofs.Ytoliadfdklfmfaa
