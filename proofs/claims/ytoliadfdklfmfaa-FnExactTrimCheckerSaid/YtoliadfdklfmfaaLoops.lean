/- Loops, told by what one round does. -/
import Derived.Test.YtoliadfdklfmfaaSiz
set_option linter.unusedVariables false
set_option linter.unusedSimpArgs false
namespace Go.Proofs.Ytoliadfdklfmfaa

theorem loop_all {β : Type} {F : Nat → β} {p : Nat → Prop} {n : Nat} {e r : β} (hs : ∀ k, k < n → (p k → F k = F (k + 1)) ∧ (¬ p k → F k = r)) (he : F n = e) :
    ∀ k, k ≤ n → ((∀ i, k ≤ i → i < n → p i) → F k = e) ∧ ((∃ i, k ≤ i ∧ i < n ∧ ¬ p i) → F k = r) := by
  have key : ∀ d k, d + k = n → ((∀ i, k ≤ i → i < n → p i) → F k = e) ∧ ((∃ i, k ≤ i ∧ i < n ∧ ¬ p i) → F k = r) := by
    intro d
    induction d with
    | zero =>
      intro k h
      have : k = n := by omega
      subst this
      exact ⟨fun _ => he, fun ⟨i, h1, h2, _⟩ => by omega⟩
    | succ d ih =>
      intro k h
      obtain ⟨h1, h2⟩ := hs k (by omega)
      obtain ⟨i1, i2⟩ := ih (k + 1) (by omega)
      refine ⟨fun hp => ?_, fun ⟨i, k1, k2, k3⟩ => ?_⟩
      · rw [h1 (hp k (Nat.le_refl _) (by omega))]
        exact i1 fun i k1 k2 => hp i (by omega) k2
      · by_cases hk : p k
        · rw [h1 hk]
          refine i2 ⟨i, ?_, k2, k3⟩
          rcases Nat.lt_or_ge k i with h | h
          · exact h
          · have : i = k := by omega
            subst this; exact absurd hk k3
        · exact h2 hk
  exact fun k hk => key (n - k) k (by omega)

/-- Two lists, place by place. -/
theorem loop_eq {α β : Type} {F : Nat → β} {a b : List α} (hl : a.length = b.length) {e r : β}
    (hs : ∀ k (h : k < a.length) (h' : k < b.length), (a[k] = b[k] → F k = F (k + 1)) ∧ (a[k] ≠ b[k] → F k = r)) (he : F a.length = e) : (a = b → F 0 = e) ∧ (a ≠ b → F 0 = r) := by
  obtain ⟨h1, h2⟩ := loop_all (F := F) (p := fun k => a[k]? = b[k]?) (n := a.length) (e := e) (r := r) (fun k h => by
    have h' : k < b.length := by omega
    obtain ⟨q1, q2⟩ := hs k h h'
    rw [List.getElem?_eq_getElem h, List.getElem?_eq_getElem h']
    exact ⟨fun hp => q1 (by simpa using hp), fun hp => q2 (by simpa using hp)⟩) he 0 (Nat.zero_le _)
  refine ⟨fun e => h1 fun i _ _ => by rw [e], fun e => h2 ?_⟩
  apply Classical.byContradiction
  intro hn
  refine e (List.ext_getElem? fun i => ?_)
  rcases Nat.lt_or_ge i a.length with h | h
  · apply Classical.byContradiction
    intro h3
    exact hn ⟨i, Nat.zero_le _, h, h3⟩
  · rw [List.getElem?_eq_none h, List.getElem?_eq_none (by omega)]

/-- A list, place by place: all of them, or the end. -/
theorem loop_forall {α β : Type} {F : Nat → β} {a : List α} {p : α → Bool} {e r : β}
    (hs : ∀ k (h : k < a.length), (p a[k] = true → F k = F (k + 1)) ∧ (p a[k] = false → F k = r)) (he : F a.length = e) : F 0 = if a.all p = true then e else r := by
  obtain ⟨h1, h2⟩ := loop_all (F := F) (p := fun k => ∀ h : k < a.length, p a[k] = true) (n := a.length) (e := e) (r := r) (fun k h => by
    obtain ⟨q1, q2⟩ := hs k h
    refine ⟨fun hp => q1 (hp h), fun hp => q2 ?_⟩
    cases hq : p a[k] with
    | false => rfl
    | true => exact absurd (fun _ => hq) hp) he 0 (Nat.zero_le _)
  split
  · rename_i ha
    exact h1 fun i _ hi _ => by rw [List.all_eq_true] at ha; exact ha _ (List.getElem_mem _)
  · rename_i ha
    refine h2 ?_
    apply Classical.byContradiction
    intro hn
    refine ha (List.all_eq_true.2 fun x hx => ?_)
    obtain ⟨i, hi, rfl⟩ := List.mem_iff_getElem.1 hx
    apply Classical.byContradiction
    intro h3
    exact hn ⟨i, Nat.zero_le _, hi, fun h4 => h3 (h4 hi)⟩

/-- The place of the first element that is such. -/
def firstIx {α : Type} (p : α → Bool) : List α → Option Nat
  | [] => none
  | x :: xs => if p x = true then some 0 else (firstIx p xs).map (· + 1)
def ixOf {α : Type} (p : α → Bool) (a : List α) : Int := match firstIx p a with
  | some i => i
  | none => -1
theorem firstIx_any {α : Type} (p : α → Bool) : ∀ a : List α, (firstIx p a).isSome = a.any p
  | [] => rfl
  | x :: xs => by
    simp only [firstIx, List.any_cons]
    cases h : p x <;> simp [← firstIx_any p xs]
theorem ixOf_any {α : Type} (p : α → Bool) (a : List α) : decide (0 ≤ ixOf p a) = a.any p := by
  rw [← firstIx_any]; unfold ixOf
  cases firstIx p a <;> simp
theorem loop_ix {α β : Type} {F : Nat → β} {a : List α} {p : α → Bool} {e : β} {r : Nat → β}
    (hs : ∀ k (h : k < a.length), (p a[k] = false → F k = F (k + 1)) ∧ (p a[k] = true → F k = r k)) (he : F a.length = e) : F 0 = match firstIx p a with | some i => r i | none => e := by
  have key : ∀ (suf pre : List α), a = pre ++ suf → F pre.length = match firstIx p suf with | some i => r (pre.length + i) | none => e := by
    intro suf
    induction suf with
    | nil => intro pre h; simp at h; subst h; simpa [firstIx] using he
    | cons x suf ih =>
      intro pre h
      have m := Aw.mid h
      obtain ⟨k1, k2⟩ := hs pre.length m.1
      rw [m.2.2] at k1 k2
      have := ih (pre ++ [x]) (by simp [h])
      simp at this
      simp only [firstIx]
      cases hx : p x with
      | true => simp [k2 hx]
      | false =>
        rw [k1 hx, this]
        cases firstIx p suf with
        | none => simp
        | some i => simp; congr 1; omega
  have := key a [] rfl
  simpa using this

theorem any_not_all {α : Type} (p : α → Bool) : ∀ l : List α, (l.any fun x => !p x) = !l.all p
  | [] => rfl
  | x :: xs => by simp only [List.any_cons, List.all_cons, any_not_all p xs, Bool.not_and]

/-- A list, taken into a state, element by element. -/
theorem loop_fold {α β S : Type} {F : Nat → S → β} {ls : List α} {f : S → α → S} (I : Nat → S → Prop) (hs : ∀ k s (h : k < ls.length), I k s → F k s = F (k + 1) (f s ls[k]) ∧ I (k + 1) (f s ls[k])) {s : S} (h0 : I 0 s) :
    F 0 s = F ls.length (ls.foldl f s) ∧ I ls.length (ls.foldl f s) := by
  have key : ∀ (suf pre : List α) (s : S), ls = pre ++ suf → I pre.length s → F pre.length s = F ls.length (suf.foldl f s) ∧ I ls.length (suf.foldl f s) := by
    intro suf
    induction suf with
    | nil => intro pre s h hi; simp at h; subst h; exact ⟨rfl, hi⟩
    | cons x suf ih =>
      intro pre s h hi
      have m := Aw.mid h
      obtain ⟨k1, k2⟩ := hs pre.length s m.1 hi
      rw [m.2.2] at k1 k2
      have := ih (pre ++ [x]) (f s x) (by simp [h]) (by simpa using k2)
      simp at this
      rw [k1, List.foldl_cons]
      exact this
  exact key ls [] s rfl h0
end Go.Proofs.Ytoliadfdklfmfaa
