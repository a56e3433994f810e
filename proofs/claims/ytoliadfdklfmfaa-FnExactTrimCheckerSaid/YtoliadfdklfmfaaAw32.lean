/- Owned data: what a value of the state is, if it is read as typed data. -/
import Derived.Test.YtoliadfdklfmfaaAw30
set_option linter.unusedVariables false
set_option linter.unusedSimpArgs false
namespace Go.Proofs.Ytoliadfdklfmfaa
namespace Aw

/-- Typed data that is owned: its objects' numbers (ids), the value p, the data x. -/
class Own (α : Type) [Enc α] where
  sh : Sh
  dep : Nat
  own : List AObj → List Nat → PV → α → Prop
  frame : ∀ {σ σ' : List AObj} {ids : List Nat} {p : PV} {x : α}, own σ ids p x → (∀ i ∈ ids, σ'[i]? = σ[i]?) → own σ' ids p x
  read : ∀ {σ : List AObj} {ids : List Nat} {p : PV} {x : α}, own σ ids p x → ∀ d, dep ≤ d → ∃ q, dfr σ d p = some q ∧ PV.ty sh q = Enc.pv x
  shift : ∀ {σ : List AObj} (τ : List AObj) {ids : List Nat} {p : PV} {x : α}, own σ ids p x → own (τ ++ σ.map (AObj.sh τ.length)) (ids.map (· + τ.length)) (p.sh τ.length) x
  bel : ∀ {σ : List AObj} {n : Nat} {ids : List Nat} {p : PV} {x : α}, own σ ids p x → (∀ i ∈ ids, i < n) → p.bel n = true
  nl : ∀ {σ : List AObj} {ids : List Nat} {p : PV} {x : α}, own σ ids p x → p.nl = true

instance : Own Int := ⟨.any, 1, fun _ ids p x => ids = [] ∧ p = Enc.pv x, fun h _ => h, fun {σ ids p x} h d hd => by
  obtain ⟨d, rfl⟩ : ∃ e, d = e + 1 := ⟨d - 1, by omega⟩
  exact ⟨p, by rw [h.2]; simp [dfr], by simp [h.2]⟩,
  fun {σ} τ {ids p x} h => ⟨by simp [h.1], by rw [h.2]; simp [PV.sh]⟩, fun h _ => by rw [h.2]; simp, fun h => by rw [h.2]; simp [PV.nl]⟩
instance : Own Bool := ⟨.any, 1, fun _ ids p x => ids = [] ∧ p = Enc.pv x, fun h _ => h, fun {σ ids p x} h d hd => by
  obtain ⟨d, rfl⟩ : ∃ e, d = e + 1 := ⟨d - 1, by omega⟩
  exact ⟨p, by rw [h.2]; simp [dfr], by simp [h.2]⟩,
  fun {σ} τ {ids p x} h => ⟨by simp [h.1], by rw [h.2]; simp [PV.sh]⟩, fun h _ => by rw [h.2]; simp, fun h => by rw [h.2]; simp [PV.nl]⟩
instance : Own ByteArray := ⟨.any, 1, fun _ ids p x => ids = [] ∧ p = Enc.pv x, fun h _ => h, fun {σ ids p x} h d hd => by
  obtain ⟨d, rfl⟩ : ∃ e, d = e + 1 := ⟨d - 1, by omega⟩
  exact ⟨p, by rw [h.2]; simp [dfr], by simp [h.2]⟩,
  fun {σ} τ {ids p x} h => ⟨by simp [h.1], by rw [h.2]; simp [PV.sh]⟩, fun h _ => by rw [h.2]; simp, fun h => by rw [h.2]; simp [PV.nl]⟩

/-- A list's elements, each owned. -/
def OwnEs {α : Type} [Enc α] [Own α] (σ : List AObj) : List (List Nat) → List PV → List α → Prop
  | [], [], [] => True
  | i :: is, p :: ps, x :: xs => Own.own σ i p x ∧ OwnEs σ is ps xs
  | _, _, _ => False
theorem OwnEs.frame {α : Type} [Enc α] [Own α] {σ σ' : List AObj} : ∀ {is : List (List Nat)} {ps : List PV} {xs : List α}, OwnEs σ is ps xs → (∀ i ∈ is.flatten, σ'[i]? = σ[i]?) → OwnEs σ' is ps xs
  | [], [], [], _, _ => trivial
  | i :: is, p :: ps, x :: xs, h, k => ⟨Own.frame h.1 fun j hj => k j (by simp [hj]), OwnEs.frame h.2 fun j hj => k j (by rw [List.flatten_cons, List.mem_append]; exact .inr hj)⟩
  | [], [], _ :: _, h, _ => h.elim
  | [], _ :: _, _, h, _ => h.elim
  | _ :: _, [], _, h, _ => h.elim
  | _ :: _, _ :: _, [], h, _ => h.elim
theorem OwnEs.len {α : Type} [Enc α] [Own α] {σ : List AObj} : ∀ {is : List (List Nat)} {ps : List PV} {xs : List α}, OwnEs σ is ps xs → ps.length = xs.length ∧ is.length = xs.length
  | [], [], [], _ => ⟨rfl, rfl⟩
  | i :: is, p :: ps, x :: xs, h => by obtain ⟨k1, k2⟩ := OwnEs.len h.2; simp [k1, k2]
  | [], [], _ :: _, h => h.elim
  | [], _ :: _, _, h => h.elim
  | _ :: _, [], _, h => h.elim
  | _ :: _, _ :: _, [], h => h.elim
theorem OwnEs.read {α : Type} [Enc α] [Own α] {σ : List AObj} {d : Nat} (hd : Own.dep α ≤ d) : ∀ {is : List (List Nat)} {ps : List PV} {xs : List α}, OwnEs σ is ps xs → ∃ qs, mapO (dfr σ d) ps = some qs ∧ qs.map (PV.ty (Own.sh α)) = xs.map Enc.pv
  | [], [], [], _ => ⟨[], rfl, rfl⟩
  | i :: is, p :: ps, x :: xs, h => by
    obtain ⟨q, e1, e2⟩ := Own.read h.1 d hd
    obtain ⟨qs, e3, e4⟩ := OwnEs.read hd h.2
    exact ⟨q :: qs, by simp [mapO, e1, e3], by simp [e2, e4]⟩
  | [], [], _ :: _, h => h.elim
  | [], _ :: _, _, h => h.elim
  | _ :: _, [], _, h => h.elim
  | _ :: _, _ :: _, [], h => h.elim

theorem OwnEs.append {α : Type} [Enc α] [Own α] {σ : List AObj} {js : List (List Nat)} {qs : List PV} {ys : List α} (k : OwnEs σ js qs ys) : ∀ {is : List (List Nat)} {ps : List PV} {xs : List α}, OwnEs σ is ps xs → OwnEs σ (is ++ js) (ps ++ qs) (xs ++ ys)
  | [], [], [], _ => k
  | i :: is, p :: ps, x :: xs, h => ⟨h.1, OwnEs.append k h.2⟩
  | [], [], _ :: _, h => h.elim
  | [], _ :: _, _, h => h.elim
  | _ :: _, [], _, h => h.elim
  | _ :: _, _ :: _, [], h => h.elim
theorem OwnEs.snoc {α : Type} [Enc α] [Own α] {σ : List AObj} {is : List (List Nat)} {ps : List PV} {xs : List α} {i : List Nat} {p : PV} {x : α} (h : OwnEs σ is ps xs) (k : Own.own σ i p x) : OwnEs σ (is ++ [i]) (ps ++ [p]) (xs ++ [x]) :=
  OwnEs.append (js := [i]) (qs := [p]) (ys := [x]) ⟨k, trivial⟩ h
/-- What is before, and what is behind. -/
theorem OwnEs.split {α : Type} [Enc α] [Own α] {σ : List AObj} {ys : List α} : ∀ {xs : List α} {is : List (List Nat)} {ps : List PV}, OwnEs σ is ps (xs ++ ys) → ∃ i1 i2 p1 p2, is = i1 ++ i2 ∧ ps = p1 ++ p2 ∧ OwnEs σ i1 p1 xs ∧ OwnEs σ i2 p2 ys
  | [], is, ps, h => ⟨[], is, [], ps, rfl, rfl, trivial, h⟩
  | x :: xs, i :: is, p :: ps, h => by
    obtain ⟨i1, i2, p1, p2, rfl, rfl, k1, k2⟩ := OwnEs.split (xs := xs) (is := is) (ps := ps) h.2
    exact ⟨i :: i1, i2, p :: p1, p2, rfl, rfl, ⟨h.1, k1⟩, k2⟩
  | _ :: _, [], [], h => h.elim
  | _ :: _, [], _ :: _, h => h.elim
  | _ :: _, _ :: _, [], h => h.elim
theorem OwnEs.cons {α : Type} [Enc α] [Own α] {σ : List AObj} {y : α} {ys : List α} : ∀ {is : List (List Nat)} {ps : List PV}, OwnEs σ is ps (y :: ys) → ∃ i is' p ps', is = i :: is' ∧ ps = p :: ps' ∧ Own.own σ i p y ∧ OwnEs σ is' ps' ys
  | i :: is, p :: ps, h => ⟨i, is, p, ps, rfl, rfl, h.1, h.2⟩
  | [], [], h => h.elim
  | [], _ :: _, h => h.elim
  | _ :: _, [], h => h.elim
theorem OwnEs.shift {α : Type} [Enc α] [Own α] {σ : List AObj} (τ : List AObj) : ∀ {is : List (List Nat)} {ps : List PV} {xs : List α}, OwnEs σ is ps xs → OwnEs (τ ++ σ.map (AObj.sh τ.length)) (is.map fun l => l.map (· + τ.length)) (ps.map (PV.sh τ.length)) xs
  | [], [], [], _ => trivial
  | i :: is, p :: ps, x :: xs, h => ⟨Own.shift τ h.1, OwnEs.shift τ h.2⟩
  | [], [], _ :: _, h => h.elim
  | [], _ :: _, _, h => h.elim
  | _ :: _, [], _, h => h.elim
  | _ :: _, _ :: _, [], h => h.elim
/-- A slice: nil, or an object of its own with all that is in it. -/
def OwnL {α : Type} [Enc α] [Own α] (σ : List AObj) (ids : List Nat) (p : PV) (xs : List α) : Prop :=
  (xs = [] ∧ ids = [] ∧ p = .val (.slice none 0 0)) ∨
  ∃ id ver es is, p = .own id ver 0 xs.length ∧ σ[id]? = some (.row (Enc.sz α) es ver) ∧ xs.length ≤ 140737488355328 ∧ ids = id :: is.flatten ∧ OwnEs σ is es xs
instance {α : Type} [Enc α] [Own α] : Own (List α) := ⟨.lst (Enc.sz α) (Own.sh α), Own.dep α + 1, OwnL,
  fun {σ σ' ids p xs} h k => by
    rcases h with h | ⟨id, ver, es, is, h1, h2, h3, h4, h5⟩
    · exact .inl h
    · exact .inr ⟨id, ver, es, is, h1, by rw [k id (by simp [h4])]; exact h2, h3, h4, h5.frame fun i hi => k i (by rw [h4]; exact List.mem_cons_of_mem _ hi)⟩,
  fun {σ ids p xs} h d hd => by
    obtain ⟨d, rfl⟩ : ∃ e, d = e + 1 := ⟨d - 1, by omega⟩
    rcases h with ⟨rfl, _, rfl⟩ | ⟨id, ver, es, is, rfl, h2, h3, h4, h5⟩
    · exact ⟨_, by simp [dfr]; rfl, rfl⟩
    · obtain ⟨qs, e1, e2⟩ := h5.read (d := d) (by omega)
      refine ⟨.list (Enc.sz α) qs false, ?_, by simp [e2]⟩
      have e0 : (es.drop 0).take xs.length = es := by rw [List.drop_zero, ← h5.len.1, List.take_length]
      simp only [dfr, h2, e0, e1]
      simp [h3],
  fun {σ} τ {ids p xs} h => by
    rcases h with ⟨rfl, rfl, rfl⟩ | ⟨id, ver, es, is, rfl, h2, h3, rfl, h5⟩
    · exact .inl ⟨rfl, rfl, by simp [PV.sh]⟩
    · refine .inr ⟨id + τ.length, ver, es.map (PV.sh τ.length), is.map fun l => l.map (· + τ.length), by simp [PV.sh], ?_, h3, ?_, h5.shift τ⟩
      · rw [List.getElem?_append_right (by omega), show id + τ.length - τ.length = id by omega, List.getElem?_map, h2]
        simp [AObj.sh, PV.shs_map]
      · simp [List.map_flatten],
  fun {σ n ids p xs} h k => by
    rcases h with ⟨rfl, rfl, rfl⟩ | ⟨id, ver, es, is, rfl, h2, h3, rfl, h5⟩
    · simp [PV.bel]
    · simp only [PV.bel, decide_eq_true_eq]; exact k id (by simp),
  fun {σ ids p xs} h => by
    rcases h with ⟨rfl, rfl, rfl⟩ | ⟨id, ver, es, is, rfl, h2, h3, rfl, h5⟩ <;> simp [PV.nl]⟩
end Aw
end Go.Proofs.Ytoliadfdklfmfaa
