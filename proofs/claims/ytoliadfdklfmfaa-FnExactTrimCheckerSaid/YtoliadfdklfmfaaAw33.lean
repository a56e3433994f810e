/- What is told of functions whose road hangs on whether an empty slice is nil: copies. -/
import Derived.Test.YtoliadfdklfmfaaAw32
set_option linter.unusedVariables false
set_option linter.unusedSimpArgs false
namespace Go.Proofs.Ytoliadfdklfmfaa
namespace Aw

theorem Rs.uncons {g : G} {p : PV} {ps : List PV} {cs : List Value} (h : Rs g (p :: ps) cs) : ∃ c ds, cs = c :: ds ∧ R g p c ∧ Rs g ps ds := by
  obtain ⟨h1, h2⟩ := h
  match cs, h1 with
  | c :: ds, h1 => exact ⟨c, ds, rfl, h2 0 p c rfl rfl, by simpa using h1, fun j q v hq hv => h2 (j + 1) q v (by simpa using hq) (by simpa using hv)⟩
theorem Rs.cons1 {g : G} {p : PV} {ps : List PV} {c : Value} {cs : List Value} (h : R g p c) (k : Rs g ps cs) : Rs g (p :: ps) (c :: cs) :=
  ⟨by simp [k.1], fun j q u hq hu => by
    cases j with
    | zero => simp at hq hu; subst hq; subst hu; exact h
    | succ j => exact k.2 j q u (by simpa using hq) (by simpa using hu)⟩

/-- A nil slice that is returned, told as an object without cells. -/
theorem Gets.nilOwn {P : Program} {f : FuncId} {args : List PV} (sz : Nat) (h : Gets P f args [] (.val (.slice none 0 0), [])) : Gets P f args [] (.own 0 0 0 0, [.row sz [] 0]) := by
  intro g vs hg hst hr
  refine (h g vs hg hst hr).mono ?_
  rintro e w' ⟨v, p, σ', ρ', rfl, h1, h2, h3, rfl, rfl⟩
  have hρ : ρ' = [] := List.eq_nil_of_length_eq_zero (by have := h1.len; simpa using this)
  subst hρ
  rw [R_val] at h3
  subst h3
  refine ⟨_, .own 0 0 0 0, [.row sz [] 0], [none], rfl, ⟨⟨h1.hid.1, fun i b hi => ?_⟩, rfl, fun i j b hi => ?_, fun i s es ver hi => ?_, fun i b s es ver hi hv hb => ?_⟩, ⟨rfl, h2.os, h2.tape, h2.output, h2.size, h2.block, fun i b hi => ?_, fun i s es ver ho => by rw [hg] at ho; simp at ho⟩, ?_, rfl, rfl⟩
  · cases i <;> simp at hi
  · cases i <;> simp at hi
  · cases i with
    | zero => simp at hi; exact .inr ⟨rfl, by have := hi.2.1; first | exact this | exact this.symm⟩
    | succ i => simp at hi
  · cases i <;> simp at hb
  · cases i <;> simp at hi
  · exact R_own.2 ⟨none, 0, rfl, Nat.le_refl _, sz, [], 0, rfl, Nat.le_refl _, fun _ => ⟨by simp, rfl⟩⟩

/-- What slices.Clone gives, at elements of a size. -/
def spClone (sz bytes : Nat) (args : List PV) (σ : List AObj) : Option (PV × List AObj) := match args, σ with
  | [.list sz' xs _], [] => if sz' = sz ∧ xs.length * bytes ≤ 140737488355328 ∧ PV.bels 0 xs = true ∧ (xs.all fun y => y.okc && decide (y.cells.length = sz)) = true then some (.own 0 0 0 xs.length, [.row sz xs 0]) else none
  | [.val (.slice none 0 0)], [] => some (.own 0 0 0 0, [.row sz [] 0])
  | _, _ => none
theorem spClone_ok {P : Program} {f : FuncId} {sz bytes : Nat} (hc : callable P f = true) (h1 : Gets P f [.val (.slice none 0 0)] [] (.val (.slice none 0 0), []))
    (h2 : Gets P f [.tl sz []] [] (.own 0 0 0 0, [.row sz [] 0]))
    (h3 : ∀ x xs ex, (xs.length + 1) * bytes ≤ 140737488355328 → PV.bels 0 (x :: xs) = true → ((x :: xs).all fun y => y.okc && decide (y.cells.length = sz)) = true → Gets P f [.list sz (x :: xs) ex] [] (.own 0 0 0 (xs.length + 1), [.row sz (x :: xs) 0])) :
    callable P f = true ∧ ∀ args σ r, spClone sz bytes args σ = some r → Gets P f args σ r := by
  refine ⟨hc, fun args σ r h => ?_⟩
  unfold spClone at h
  split at h
  · rename_i sz' xs ex
    split at h
    · rename_i hh
      obtain ⟨rfl, hb, hb0, hx⟩ := hh
      injection h with h; subst h
      cases xs with
      | nil =>
        intro g vs hg hst hr
        obtain ⟨c, ds, rfl, hr1, hr2⟩ := hr.uncons
        obtain ⟨a, cap, e1, ⟨e2, e3⟩, _⟩ := R_list.1 hr1
        cases a with
        | none =>
          have := e3 rfl
          subst this
          exact Gets.nilOwn sz' h1 g (c :: ds) hg hst (Rs.cons1 (R_val.2 e1) hr2)
        | some ad => exact h2 g (c :: ds) hg hst (Rs.cons1 (R_tl.2 ⟨some ad, cap, e1, ⟨e2, rfl⟩, by simp, by simp⟩) hr2)
      | cons x xs => exact h3 x xs ex (by simpa using hb) hb0 hx
    · cases h
  · injection h with h; subst h; exact Gets.nilOwn sz h1
  · cases h
end Aw
end Go.Proofs.Ytoliadfdklfmfaa
