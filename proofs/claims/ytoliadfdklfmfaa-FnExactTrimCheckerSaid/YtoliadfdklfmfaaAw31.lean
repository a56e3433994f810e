/- Values, told by their types: a nil slice told as a list without elements. -/
import Derived.Test.YtoliadfdklfmfaaAw21
set_option linter.unusedVariables false
set_option linter.unusedSimpArgs false
namespace Go.Proofs.Ytoliadfdklfmfaa
namespace Aw

/-- The shape of a value: where the slices are in it. -/
inductive Sh where
  | any
  | agg (ss : List Sh)
  | lst (sz : Nat) (s : Sh)
  | fp (ss : List Sh)
  deriving Inhabited

mutual
/-- The same, nil slices and empty lists told as lists without elements. -/
def PV.ty : Sh → PV → PV
  | .any, p => p
  | .agg ss, p => match p with
    | .agg ps => .agg (PV.tys ss ps)
    | .tup ps => .tup (PV.tys ss ps)
    | p => p
  | .lst sz s, p => match p with
    | .val (.slice none 0 0) => .list sz [] false
    | .list sz' xs _ => match xs with
      | [] => .list sz [] false
      | x :: xs => .list sz' (PV.ty s x :: xs.map (PV.ty s)) false
    | p => p
  | .fp ss, p => match p with
    | .fptr cs off => .fptr (PV.tys ss cs) off
    | p => p
def PV.tys : List Sh → List PV → List PV
  | [], ps => ps
  | s :: ss, ps => match ps with
    | [] => []
    | p :: ps => PV.ty s p :: PV.tys ss ps
end

theorem PV.ty_lst (sz : Nat) (s : Sh) (p : PV) : (p = .val (.slice none 0 0) ∧ PV.ty (.lst sz s) p = .list sz [] false) ∨ (∃ sz' ex, p = .list sz' [] ex ∧ PV.ty (.lst sz s) p = .list sz [] false) ∨
    (∃ sz' x xs ex, p = .list sz' (x :: xs) ex ∧ PV.ty (.lst sz s) p = .list sz' ((x :: xs).map (PV.ty s)) false) ∨ PV.ty (.lst sz s) p = p := by
  simp only [PV.ty]
  split
  · exact .inl ⟨rfl, rfl⟩
  · split
    · exact .inr (.inl ⟨_, _, rfl, rfl⟩)
    · exact .inr (.inr (.inl ⟨_, _, _, _, rfl, rfl⟩))
  · exact .inr (.inr (.inr rfl))
@[simp] theorem PV.ty_list (sz : Nat) (s : Sh) (xs : List PV) : PV.ty (.lst sz s) (.list sz xs false) = .list sz (xs.map (PV.ty s)) false := by
  cases xs <;> simp [PV.ty]
@[simp] theorem PV.ty_nil (sz : Nat) (s : Sh) : PV.ty (.lst sz s) (.val (.slice none 0 0)) = .list sz [] false := rfl
@[simp] theorem PV.ty_list0 (sz sz' : Nat) (s : Sh) (ex : Bool) : PV.ty (.lst sz s) (.list sz' [] ex) = .list sz [] false := rfl
@[simp] theorem PV.ty_list1 (sz sz' : Nat) (s : Sh) (x : PV) (xs : List PV) (ex : Bool) : PV.ty (.lst sz s) (.list sz' (x :: xs) ex) = .list sz' (PV.ty s x :: xs.map (PV.ty s)) false := rfl
@[simp] theorem PV.ty_agg (ss : List Sh) (ps : List PV) : PV.ty (.agg ss) (.agg ps) = .agg (PV.tys ss ps) := rfl
@[simp] theorem PV.ty_fp (ss : List Sh) (ps : List PV) (off : Nat) : PV.ty (.fp ss) (.fptr ps off) = .fptr (PV.tys ss ps) off := rfl
@[simp] theorem PV.ty_tup (ss : List Sh) (ps : List PV) : PV.ty (.agg ss) (.tup ps) = .tup (PV.tys ss ps) := rfl
@[simp] theorem PV.ty_any : PV.ty .any = id := by funext p; simp [PV.ty]
/-- The same, or told by a shape. -/
def Tyd (p q : PV) : Prop := q = p ∨ ∃ s, q = PV.ty s p
theorem PV.tys_len : ∀ (ss : List Sh) (ps : List PV), (PV.tys ss ps).length = ps.length
  | [], ps => by simp [PV.tys]
  | s :: ss, [] => by simp [PV.tys]
  | s :: ss, p :: ps => by simp [PV.tys, PV.tys_len ss ps]
theorem PV.tys_at : ∀ (ss : List Sh) (ps : List PV) (j : Nat) (q : PV), (PV.tys ss ps)[j]? = some q → ∃ p, ps[j]? = some p ∧ Tyd p q
  | [], ps, j, q, h => by simp only [PV.tys] at h; exact ⟨q, h, .inl rfl⟩
  | s :: ss, [], j, q, h => by simp [PV.tys] at h
  | s :: ss, p :: ps, 0, q, h => by simp [PV.tys] at h; exact ⟨p, by simp, .inr ⟨s, h.symm⟩⟩
  | s :: ss, p :: ps, j + 1, q, h => by
    simp only [PV.tys, List.getElem?_cons_succ] at h ⊢
    exact PV.tys_at ss ps j q h
theorem PV.ty_cells (s : Sh) (p : PV) : (PV.ty s p).cells.length = p.cells.length ∧ ∀ (j : Nat) q, (PV.ty s p).cells[j]? = some q → ∃ r, p.cells[j]? = some r ∧ Tyd r q := by
  have one : ∀ {q : PV}, q.cells = [q] → p.cells = [p] → q = PV.ty s p → q.cells.length = p.cells.length ∧ ∀ (j : Nat) r, q.cells[j]? = some r → ∃ r', p.cells[j]? = some r' ∧ Tyd r' r := by
    intro q h1 h2 e
    rw [h1, h2]
    refine ⟨rfl, fun j r hr => ?_⟩
    cases j with
    | zero => simp at hr; subst hr; exact ⟨p, by simp, .inr ⟨s, e⟩⟩
    | succ j => simp at hr
  have same : PV.ty s p = p → (PV.ty s p).cells.length = p.cells.length ∧ ∀ (j : Nat) q, (PV.ty s p).cells[j]? = some q → ∃ r, p.cells[j]? = some r ∧ Tyd r q := by
    intro e
    rw [e]
    exact ⟨rfl, fun j q hq => ⟨q, hq, .inl rfl⟩⟩
  cases s with
  | any => exact same (by simp [PV.ty])
  | agg ss =>
    cases p with
    | agg ps => simp only [PV.ty, PV.cells]; exact ⟨PV.tys_len ss ps, PV.tys_at ss ps⟩
    | tup ps => exact one (by simp [PV.ty, PV.cells]) rfl rfl
    | _ => exact same (by simp [PV.ty])
  | lst sz s =>
    rcases PV.ty_lst sz s p with ⟨rfl, e⟩ | ⟨sz', ex, rfl, e⟩ | ⟨sz', x, xs, ex, rfl, e⟩ | e
    · exact one (by rw [e]; rfl) rfl rfl
    · exact one (by rw [e]; rfl) rfl rfl
    · exact one (by rw [e]; rfl) rfl rfl
    · exact same e
  | fp ss =>
    cases p with
    | fptr ps off => exact one (by simp [PV.ty, PV.cells]) rfl rfl
    | _ => exact same (by simp [PV.ty])

mutual
theorem PV.ty_bel : ∀ (s : Sh) {p : PV} {n : Nat}, p.bel n = true → (PV.ty s p).bel n = true
  | .any, p, n, h => by simpa [PV.ty] using h
  | .agg ss, p, n, h => by
    cases p with
    | agg ps => simp only [PV.ty, PV.bel] at h ⊢; exact PV.tys_bel ss h
    | tup ps => simp only [PV.ty, PV.bel] at h ⊢; exact PV.tys_bel ss h
    | _ => simpa [PV.ty] using h
  | .lst sz s, p, n, h => by
    rcases PV.ty_lst sz s p with ⟨rfl, e⟩ | ⟨sz', ex, rfl, e⟩ | ⟨sz', x, xs, ex, rfl, e⟩ | e
    · rw [e]; rfl
    · rw [e]; rfl
    · rw [e]; rfl
    · rw [e]; exact h
  | .fp ss, p, n, h => by
    cases p with
    | fptr ps off => simp only [PV.ty, PV.bel]
    | _ => simpa [PV.ty] using h
theorem PV.tys_bel : ∀ (ss : List Sh) {ps : List PV} {n : Nat}, PV.bels n ps = true → PV.bels n (PV.tys ss ps) = true
  | [], ps, n, h => by simpa [PV.tys] using h
  | s :: ss, [], n, h => by simp [PV.tys, PV.bels]
  | s :: ss, p :: ps, n, h => by
    simp only [PV.tys, PV.bels, Bool.and_eq_true] at h ⊢
    exact ⟨PV.ty_bel s h.1, PV.tys_bel ss h.2⟩
end

theorem ty_flat_at (s : Sh) : ∀ (xs : List PV) (j : Nat) (q : PV), ((xs.map (PV.ty s)).flatMap PV.cells)[j]? = some q → ∃ r, (xs.flatMap PV.cells)[j]? = some r ∧ Tyd r q
  | [], j, q, h => by simp at h
  | x :: xs, j, q, h => by
    obtain ⟨k1, k2⟩ := PV.ty_cells s x
    simp only [List.map_cons, List.flatMap_cons] at h ⊢
    rcases Nat.lt_or_ge j x.cells.length with c | c
    · rw [List.getElem?_append_left (by omega)] at h
      rw [List.getElem?_append_left c]
      exact k2 j q h
    · rw [List.getElem?_append_right (by omega), k1] at h
      rw [List.getElem?_append_right c]
      exact ty_flat_at s xs _ q h

/-- Telling by a shape is right. -/
theorem VR.ty {g : G} : ∀ {m : Nat} {s : Sh} {p : PV} {c : Value}, VR g m p c → VR g m (PV.ty s p) c
  | 0, _, _, _, h => h.elim
  | m + 1, s, p, c, h => by
    have ih := @VR.ty g m
    have tyd : ∀ {p q : PV} {c : Value}, Tyd p q → VR g m p c → VR g m q c := by
      rintro p q c (rfl | ⟨s, rfl⟩) h
      · exact h
      · exact ih h
    cases s with
    | any => simpa only [PV.ty] using h
    | agg ss =>
      have many : ∀ {ps : List PV} {cs : List Value}, cs.length = ps.length → (∀ (j : Nat) p v, ps[j]? = some p → cs[j]? = some v → VR g m p v) → cs.length = (PV.tys ss ps).length ∧ ∀ (j : Nat) p v, (PV.tys ss ps)[j]? = some p → cs[j]? = some v → VR g m p v := by
        intro ps cs h1 h2
        refine ⟨by rw [PV.tys_len]; exact h1, fun j q v hq hv => ?_⟩
        obtain ⟨p, hp, ht⟩ := PV.tys_at ss ps j q hq
        exact tyd ht (h2 j p v hp hv)
      cases p with
      | agg ps =>
        simp only [PV.ty, VR] at h ⊢
        obtain ⟨cs, h1, h2, h3⟩ := h
        exact ⟨cs, h1, (many h2 h3).1, (many h2 h3).2⟩
      | tup ps =>
        simp only [PV.ty, VR] at h ⊢
        obtain ⟨cs, h1, h2, h3⟩ := h
        exact ⟨cs, h1, (many h2 h3).1, (many h2 h3).2⟩
      | _ => simpa only [PV.ty] using h
    | lst sz s =>
      rcases PV.ty_lst sz s p with ⟨rfl, e⟩ | ⟨sz', ex, rfl, e⟩ | ⟨sz', x, xs, ex, rfl, e⟩ | e
      · rw [e]; simp only [VR] at h ⊢; subst h
        exact ⟨Option.none, 0, rfl, ⟨by simp, fun _ => rfl⟩, by simp, by simp, by simp, by simp⟩
      · rw [e]; simp only [VR] at h ⊢
        obtain ⟨a, cap, h1, h2, h3, h4, h5, h6⟩ := h
        exact ⟨a, cap, h1, h2, h3, by simp, by simp, by simp⟩
      · rw [e]; simp only [VR] at h ⊢
        obtain ⟨a, cap, h1, h2, h3, h4, h5, h6⟩ := h
        refine ⟨a, cap, by rw [List.length_map]; exact h1, by rw [List.length_map]; exact h2, by rw [List.length_map]; exact h3, by simp, ?_, ?_⟩
        · intro y hy
          obtain ⟨z, hz, rfl⟩ := List.mem_map.1 hy
          exact ⟨PV.ty_bel s (h5 z hz).1, by rw [(PV.ty_cells s z).1]; exact (h5 z hz).2⟩
        · intro _
          obtain ⟨ad, k1, k2, k3, k4⟩ := h6 (by simp)
          refine ⟨ad, k1, k2, k3, fun j q hq => ?_⟩
          obtain ⟨r, hr, ht⟩ := ty_flat_at s (x :: xs) j q hq
          obtain ⟨v, hv, hV⟩ := k4 j r hr
          exact ⟨v, hv, tyd ht hV⟩
      · rw [e]; exact h
    | fp ss =>
      cases p with
      | fptr ps off =>
        simp only [PV.ty, VR] at h ⊢
        obtain ⟨ad, h1, h2, h3, h4⟩ := h
        refine ⟨ad, h1, h2, h3, fun j q hq => ?_⟩
        obtain ⟨p, hp, ht⟩ := PV.tys_at ss ps j q hq
        obtain ⟨k1, v, k2, k3⟩ := h4 j p hp
        refine ⟨?_, v, k2, tyd ht k3⟩
        rcases ht with rfl | ⟨s, rfl⟩
        · exact k1
        · exact PV.ty_bel s k1
      | _ => simpa only [PV.ty] using h
theorem R.ty {g : G} {s : Sh} {p : PV} {c : Value} (h : R g p c) : R g (PV.ty s p) c := let ⟨n, h⟩ := h; ⟨n, h.ty⟩
theorem Rs.tys {g : G} {ss : List Sh} {ps : List PV} {cs : List Value} (h : Rs g ps cs) : Rs g (PV.tys ss ps) cs := by
  refine ⟨by rw [PV.tys_len]; exact h.1, fun j q v hq hv => ?_⟩
  obtain ⟨p, hp, ht⟩ := PV.tys_at ss ps j q hq
  have := h.2 j p v hp hv
  rcases ht with rfl | ⟨s, rfl⟩
  · exact this
  · exact this.ty
/-- A call's arguments may be told by shapes. -/
theorem ACall.tys {P : Program} {f : FuncId} {ss : List Sh} {args : List PV} {σ : List AObj} {Q : PV → List AObj → Prop} (h : ACall P f (PV.tys ss args) σ Q) : ACall P f args σ Q :=
  fun g vs hg hst hr => h g vs hg hst hr.tys
/-- A call's result may be told by a shape. -/
theorem ACall.tyr {P : Program} {f : FuncId} {s : Sh} {args : List PV} {σ : List AObj} {Q : PV → List AObj → Prop} (h : ACall P f args σ Q) : ACall P f args σ fun q τ => ∃ p, Q p τ ∧ q = PV.ty s p :=
  fun g vs hg hst hr => (h g vs hg hst hr).mono fun e w' ⟨v, p, σ', ρ', h1, h2, h3, h4, h5⟩ => ⟨v, PV.ty s p, σ', ρ', h1, h2, h3, h4.ty, p, h5, rfl⟩
end Aw
end Go.Proofs.Ytoliadfdklfmfaa
