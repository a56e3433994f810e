/- Abstract values and states over the machine's worlds: what a slot holds, said without tapes, capacities and block numbers. The calculus of code over abstract frames and states: control. Operations over abstract frames and states: what they give. The check that an operation is the one told, its types resolved over the program's tables; what runs. Each operation gives what is told: the reading ones. -/
import Derived.Calls
import Derived.Orders
import Derived.Below
import Derived.Laws.BytesArg
import Derived.Laws.Externs
import Derived.Laws.Append
import Derived.Laws.AppendOwn
import Derived.Laws.CopyRow
set_option linter.unusedVariables false
set_option linter.unusedSimpArgs false
namespace Go.Proofs.Ytoliadfdklfmfaa
namespace Aw

/-- Abstract values. `list`: a slice whose cells nobody will write again (element size, elements, is the capacity just the length). `fptr`: a pointer into cells that nobody will write again.
`tl`: a literal's cells that nobody will write again, with any elements.
`own`, `ptr`: a slice of, a pointer into an object of the state (its number, its version). -/
inductive PV where
  | any
  | val (v : Value)
  | agg (ps : List PV)
  | tup (ps : List PV)
  | list (sz : Nat) (xs : List PV) (ex : Bool)
  | fptr (cs : List PV) (off : Nat)
  | own (id ver off len : Nat)
  | ptr (id ver i off : Nat)
  | fn (f : FuncId) (caps : List PV)
  | tl (sz : Nat) (xs : List PV)
  deriving Inhabited

/-- An object of the state: rows of elements of one size, with a version that turns when the row may move. -/
inductive AObj where
  | row (sz : Nat) (es : List PV) (ver : Nat)

def PV.cells : PV → List PV
  | .agg ps => ps
  | p => [p]

mutual
/-- No reference in it goes to an object from n on. -/
def PV.bel (n : Nat) : PV → Bool
  | .agg ps => PV.bels n ps
  | .tup ps => PV.bels n ps
  | .own id _ _ _ => decide (id < n)
  | .ptr id _ _ _ => decide (id < n)
  | .fn _ caps => PV.bels n caps
  | .any => true
  | .val _ => true
  | .list _ _ _ => true
  | .fptr _ _ => true
  | .tl _ xs => PV.bels n xs
def PV.bels (n : Nat) : List PV → Bool
  | [] => true
  | p :: ps => PV.bel n p && PV.bels n ps
end

theorem PV.bels_iff {n : Nat} : ∀ {ps : List PV}, PV.bels n ps = true ↔ ∀ p ∈ ps, p.bel n = true
  | [] => by simp [PV.bels]
  | p :: ps => by simp [PV.bels, PV.bels_iff (ps := ps)]

/-- A state: the objects, the block of each (none: it has no cells yet), the world; blocks that others keep for themselves. -/
structure G where
  σ : List AObj
  ρ : List (Option Nat)
  w : World
  h : List Nat

/-- A block that no object has: it is never written again. -/
def G.frz (g : G) (b : Nat) : Prop := b < g.w.heap.size ∧ (∀ i : Nat, g.ρ[i]? ≠ some (some b)) ∧ b ∉ g.h

def blockSize (w : World) (b : Nat) : Option Nat := match w.heap[b]? with
  | some (.cells cs _ _) => some cs.size
  | _ => none

/-- What an abstract value says of a value (n: how deep it is looked at). -/
def VR (g : G) : Nat → PV → Value → Prop
  | 0, _, _ => False
  | n + 1, p, c => match p with
    | .any => True
    | .val v => c = v
    | .agg ps => ∃ cs : List Value, c = .agg cs.toArray ∧ cs.length = ps.length ∧ ∀ (j : Nat) p v, ps[j]? = some p → cs[j]? = some v → VR g n p v
    | .tup ps => ∃ cs : List Value, c = .tuple cs.toArray ∧ cs.length = ps.length ∧ ∀ (j : Nat) p v, ps[j]? = some p → cs[j]? = some v → VR g n p v
    | .list sz xs ex => ∃ a cap, c = .slice a xs.length cap ∧ (xs.length ≤ cap ∧ (a = none → cap = 0)) ∧ xs.length ≤ 9223372036854775807 ∧ (ex = true → cap = xs.length) ∧ (∀ x ∈ xs, x.bel 0 = true ∧ x.cells.length = sz) ∧
        (0 < xs.length → ∃ ad, a = some ad ∧ ad.spot = none ∧ g.frz ad.block ∧ ∀ (j : Nat) p, (xs.flatMap PV.cells)[j]? = some p → ∃ v, g.w.cell? (ad.add j) = some v ∧ VR g n p v)
    | .tl sz xs => ∃ a cap, c = .slice a xs.length cap ∧ (xs.length ≤ cap ∧ a.isSome = true) ∧ (∀ x ∈ xs, x.cells.length = sz) ∧
        (0 < xs.length → ∃ ad, a = some ad ∧ ad.spot = none ∧ g.frz ad.block ∧ ∀ (j : Nat) p, (xs.flatMap PV.cells)[j]? = some p → ∃ v, g.w.cell? (ad.add j) = some v ∧ VR g n p v)
    | .fptr cs off => ∃ ad : Addr, c = .pointer (some (ad.add off)) ∧ ad.spot = none ∧ g.frz ad.block ∧ ∀ (j : Nat) p, cs[j]? = some p → p.bel 0 = true ∧ ∃ v, g.w.cell? (ad.add j) = some v ∧ VR g n p v
    | .own id ver off len => ∃ a cap, c = .slice a len cap ∧ len ≤ cap ∧ ∃ sz es ver', g.σ[id]? = some (.row sz es ver') ∧ ver ≤ ver' ∧ (ver = ver' → off + len ≤ es.length ∧
        match g.ρ[id]? with
        | some (some b) => (0 < cap → a = some ⟨b, off * sz, none⟩) ∧ ∃ s, blockSize g.w b = some s ∧ (off + cap) * sz ≤ s
        | _ => cap = 0)
    | .ptr id ver i off => ∃ ad, c = .pointer (some ad) ∧ ∃ sz es ver', g.σ[id]? = some (.row sz es ver') ∧ ver ≤ ver' ∧ (ver = ver' → i < es.length ∧ ∃ b, g.ρ[id]? = some (some b) ∧ ad = ⟨b, i * sz + off, none⟩)
    | .fn f caps => ∃ cs : List Value, c = .func (.func f) #[] cs.toArray ∧ cs.length = caps.length ∧ ∀ (j : Nat) p v, caps[j]? = some p → cs[j]? = some v → VR g n p v

/-- The value is as the abstract value says. -/
def R (g : G) (p : PV) (c : Value) : Prop := ∃ n, VR g n p c

theorem VR.succ {g : G} : ∀ {n : Nat} {p : PV} {c : Value}, VR g n p c → VR g (n + 1) p c
  | 0, _, _, h => h.elim
  | n + 1, p, c, h => by
    have ih := @VR.succ g n
    cases p with
    | any => trivial
    | val v => exact h
    | agg ps =>
      simp only [VR] at h ⊢
      obtain ⟨cs, h1, h2, h3⟩ := h
      exact ⟨cs, h1, h2, fun j p v hp hv => ih (h3 j p v hp hv)⟩
    | tup ps =>
      simp only [VR] at h ⊢
      obtain ⟨cs, h1, h2, h3⟩ := h
      exact ⟨cs, h1, h2, fun j p v hp hv => ih (h3 j p v hp hv)⟩
    | list sz xs ex =>
      simp only [VR] at h ⊢
      obtain ⟨a, cap, h1, h2, h3, h4, h5, h6⟩ := h
      refine ⟨a, cap, h1, h2, h3, h4, h5, fun h0 => ?_⟩
      obtain ⟨ad, e1, e2, e3, e4⟩ := h6 h0
      exact ⟨ad, e1, e2, e3, fun j p hp => let ⟨v, q1, q2⟩ := e4 j p hp; ⟨v, q1, ih q2⟩⟩
    | tl sz xs =>
      simp only [VR] at h ⊢
      obtain ⟨a, cap, h1, h2, h3, h6⟩ := h
      refine ⟨a, cap, h1, h2, h3, fun h0 => ?_⟩
      obtain ⟨ad, e1, e2, e3, e4⟩ := h6 h0
      exact ⟨ad, e1, e2, e3, fun j p hp => let ⟨v, q1, q2⟩ := e4 j p hp; ⟨v, q1, ih q2⟩⟩
    | fptr cs off =>
      simp only [VR] at h ⊢
      obtain ⟨ad, e1, e2, e3, e4⟩ := h
      exact ⟨ad, e1, e2, e3, fun j p hp => let ⟨q0, v, q1, q2⟩ := e4 j p hp; ⟨q0, v, q1, ih q2⟩⟩
    | own id ver off len => simp only [VR] at h ⊢; exact h
    | ptr id ver i off => simp only [VR] at h ⊢; exact h
    | fn f caps =>
      simp only [VR] at h ⊢
      obtain ⟨cs, h1, h2, h3⟩ := h
      exact ⟨cs, h1, h2, fun j p v hp hv => ih (h3 j p v hp hv)⟩

theorem VR.le {g : G} {n m : Nat} {p : PV} {c : Value} (hn : n ≤ m) (h : VR g n p c) : VR g m p c := by
  induction hn with
  | refl => exact h
  | step _ ih => exact VR.succ ih

/-- How a state may go on. -/
structure Step (g g' : G) : Prop where
  h : g'.h = g.h
  os : g'.w.os = g.w.os
  tape : g'.w.tape = g.w.tape
  output : g'.w.output = g.w.output
  size : g.w.heap.size ≤ g'.w.heap.size
  block : ∀ b, b < g.w.heap.size → (∀ i : Nat, g.ρ[i]? ≠ some (some b)) → g'.w.heap[b]? = g.w.heap[b]?
  own : ∀ (i b : Nat), g'.ρ[i]? = some (some b) → g.w.heap.size ≤ b ∨ ∃ j : Nat, g.ρ[j]? = some (some b)
  obj : ∀ (i : Nat) sz es ver, g.σ[i]? = some (.row sz es ver) → ∃ es' ver', g'.σ[i]? = some (.row sz es' ver') ∧ ver ≤ ver' ∧
    (ver = ver' → es.length ≤ es'.length ∧ g'.ρ[i]? = g.ρ[i]? ∧ ∀ b, g.ρ[i]? = some (some b) → blockSize g'.w b = blockSize g.w b)

theorem Step.refl (g : G) : Step g g :=
  ⟨rfl, rfl, rfl, rfl, Nat.le_refl _, fun _ _ _ => rfl, fun i b h => .inr ⟨i, h⟩, fun i sz es ver h => ⟨es, ver, h, Nat.le_refl _, fun _ => ⟨Nat.le_refl _, rfl, fun _ _ => rfl⟩⟩⟩

theorem Step.trans {a b c : G} (h : Step a b) (k : Step b c) : Step a c := by
  refine ⟨k.h.trans h.h, k.os.trans h.os, k.tape.trans h.tape, k.output.trans h.output, Nat.le_trans h.size k.size, fun x hx hn => ?_, fun i x hx => ?_, fun i sz es ver ho => ?_⟩
  · rw [k.block x (Nat.lt_of_lt_of_le hx h.size) fun i hi => ?_, h.block x hx hn]
    rcases h.own i x hi with h' | ⟨j, hj⟩
    · omega
    · exact hn j hj
  · rcases k.own i x hx with h' | ⟨j, hj⟩
    · exact .inl (Nat.le_trans h.size h')
    · exact h.own j x hj
  · obtain ⟨es1, v1, h1, h2, h3⟩ := h.obj i sz es ver ho
    obtain ⟨es2, v2, k1, k2, k3⟩ := k.obj i sz es1 v1 h1
    refine ⟨es2, v2, k1, Nat.le_trans h2 k2, fun e => ?_⟩
    have e1 : ver = v1 := by omega
    have e2 : v1 = v2 := by omega
    obtain ⟨a1, a2, a3⟩ := h3 e1
    obtain ⟨b1, b2, b3⟩ := k3 e2
    exact ⟨Nat.le_trans a1 b1, b2.trans a2, fun b hb => (b3 b (a2 ▸ hb)).trans (a3 b hb)⟩

theorem Step.frz {g g' : G} (h : Step g g') {b : Nat} (hb : g.frz b) : g'.frz b := by
  refine ⟨Nat.lt_of_lt_of_le hb.1 h.size, fun i hi => ?_, by rw [h.h]; exact hb.2.2⟩
  rcases h.own i b hi with h' | ⟨j, hj⟩
  · have := hb.1; omega
  · exact hb.2.1 j hj

theorem Step.cell {g g' : G} (h : Step g g') {a : Addr} (hb : g.frz a.block) : g'.w.cell? a = g.w.cell? a := by
  unfold World.cell?
  rw [h.block a.block hb.1 hb.2.1]

theorem addr_add_block (a : Addr) (n : Nat) : (a.add n).block = a.block := by unfold Addr.add; split <;> rfl

theorem VR.step {g g' : G} (h : Step g g') : ∀ {n : Nat} {p : PV} {c : Value}, VR g n p c → VR g' n p c
  | 0, _, _, k => k.elim
  | n + 1, p, c, k => by
    have ih := @VR.step g g' h n
    cases p with
    | any => trivial
    | val v => exact k
    | agg ps =>
      simp only [VR] at k ⊢
      obtain ⟨cs, h1, h2, h3⟩ := k
      exact ⟨cs, h1, h2, fun j p v hp hv => ih (h3 j p v hp hv)⟩
    | tup ps =>
      simp only [VR] at k ⊢
      obtain ⟨cs, h1, h2, h3⟩ := k
      exact ⟨cs, h1, h2, fun j p v hp hv => ih (h3 j p v hp hv)⟩
    | list sz xs ex =>
      simp only [VR] at k ⊢
      obtain ⟨a, cap, h1, h2, h3, h4, h5, h6⟩ := k
      refine ⟨a, cap, h1, h2, h3, h4, h5, fun h0 => ?_⟩
      obtain ⟨ad, e1, e2, e3, e4⟩ := h6 h0
      exact ⟨ad, e1, e2, h.frz e3, fun j p hp => let ⟨v, q1, q2⟩ := e4 j p hp; ⟨v, (h.cell (a := ad.add j) (by rw [addr_add_block]; exact e3)).trans q1, ih q2⟩⟩
    | tl sz xs =>
      simp only [VR] at k ⊢
      obtain ⟨a, cap, h1, h2, h3, h6⟩ := k
      refine ⟨a, cap, h1, h2, h3, fun h0 => ?_⟩
      obtain ⟨ad, e1, e2, e3, e4⟩ := h6 h0
      exact ⟨ad, e1, e2, h.frz e3, fun j p hp => let ⟨v, q1, q2⟩ := e4 j p hp; ⟨v, (h.cell (a := ad.add j) (by rw [addr_add_block]; exact e3)).trans q1, ih q2⟩⟩
    | fptr cs off =>
      simp only [VR] at k ⊢
      obtain ⟨ad, e1, e2, e3, e4⟩ := k
      exact ⟨ad, e1, e2, h.frz e3, fun j p hp => let ⟨q0, v, q1, q2⟩ := e4 j p hp; ⟨q0, v, (h.cell (a := ad.add j) (by rw [addr_add_block]; exact e3)).trans q1, ih q2⟩⟩
    | own id ver off len =>
      simp only [VR] at k ⊢
      obtain ⟨a, cap, q1, q2, sz, es, v1, h1, h2, h3⟩ := k
      obtain ⟨es', v2, k1, k2, k3⟩ := h.obj id sz es v1 h1
      refine ⟨a, cap, q1, q2, sz, es', v2, k1, Nat.le_trans h2 k2, fun e => ?_⟩
      obtain ⟨q3, q4⟩ := h3 (by omega)
      obtain ⟨r1, r2, r3⟩ := k3 (by omega)
      refine ⟨by omega, ?_⟩
      rw [r2]
      cases hb : g.ρ[id]? with
      | none => simp only [hb] at q4 ⊢; exact q4
      | some o =>
        cases o with
        | none => simp only [hb] at q4 ⊢; exact q4
        | some b =>
          simp only [hb] at q4 ⊢
          obtain ⟨q5, s, q6, q7⟩ := q4
          exact ⟨q5, s, (r3 b hb).trans q6, q7⟩
    | ptr id ver i off =>
      simp only [VR] at k ⊢
      obtain ⟨ad, q0, sz, es, v1, h1, h2, h3⟩ := k
      obtain ⟨es', v2, k1, k2, k3⟩ := h.obj id sz es v1 h1
      refine ⟨ad, q0, sz, es', v2, k1, Nat.le_trans h2 k2, fun e => ?_⟩
      obtain ⟨q1, b, q2, q3⟩ := h3 (by omega)
      obtain ⟨r1, r2, r3⟩ := k3 (by omega)
      exact ⟨by omega, b, r2.trans q2, q3⟩
    | fn f caps =>
      simp only [VR] at k ⊢
      obtain ⟨cs, h1, h2, h3⟩ := k
      exact ⟨cs, h1, h2, fun j p v hp hv => ih (h3 j p v hp hv)⟩

theorem R.step {g g' : G} (h : Step g g') {p : PV} {c : Value} (k : R g p c) : R g' p c := let ⟨n, hn⟩ := k; ⟨n, VR.step h hn⟩

/-! ### How R reads, constructor by constructor -/
/-- Each of a list is as told. -/
def Rs (g : G) (ps : List PV) (cs : List Value) : Prop := cs.length = ps.length ∧ ∀ (j : Nat) p v, ps[j]? = some p → cs[j]? = some v → R g p v

theorem VR_of_Rs {g : G} : ∀ {ps : List PV} {cs : List Value}, Rs g ps cs → ∃ n, ∀ (j : Nat) p v, ps[j]? = some p → cs[j]? = some v → VR g n p v
  | [], _, h => ⟨0, fun j p v hp => by simp at hp⟩
  | p :: ps, [], h => by have := h.1; simp at this
  | p :: ps, c :: cs, h => by
    obtain ⟨n, hn⟩ := VR_of_Rs (ps := ps) (cs := cs) ⟨by simpa using h.1, fun j q v hq hv => h.2 (j + 1) q v (by simpa using hq) (by simpa using hv)⟩
    obtain ⟨m, hm⟩ := h.2 0 p c (by simp) (by simp)
    refine ⟨max n m, fun j q v hq hv => ?_⟩
    cases j with
    | zero => simp at hq hv; subst hq; subst hv; exact VR.le (Nat.le_max_right ..) hm
    | succ j => exact VR.le (Nat.le_max_left ..) (hn j q v (by simpa using hq) (by simpa using hv))

/-- The same along a row of cells. -/
theorem VR_of_cells {g : G} {f : Nat → Option Value} : ∀ {ps : List PV}, (∀ (j : Nat) p, ps[j]? = some p → ∃ v, f j = some v ∧ R g p v) → ∃ n, ∀ (j : Nat) p, ps[j]? = some p → ∃ v, f j = some v ∧ VR g n p v := by
  intro ps
  induction ps generalizing f with
  | nil => intro _; exact ⟨0, fun j p hp => by simp at hp⟩
  | cons p ps ih =>
    intro h
    obtain ⟨n, hn⟩ := ih (f := fun j => f (j + 1)) fun j q hq => h (j + 1) q (by simpa using hq)
    obtain ⟨v, hv, m, hm⟩ := h 0 p (by simp)
    refine ⟨max n m, fun j q hq => ?_⟩
    cases j with
    | zero => simp at hq; subst hq; exact ⟨v, hv, VR.le (Nat.le_max_right ..) hm⟩
    | succ j => obtain ⟨u, hu, hu'⟩ := hn j q (by simpa using hq); exact ⟨u, hu, VR.le (Nat.le_max_left ..) hu'⟩

theorem R_any (g : G) (c : Value) : R g .any c := ⟨1, trivial⟩
theorem R_val {g : G} {v c : Value} : R g (.val v) c ↔ c = v := ⟨fun ⟨n, h⟩ => by cases n with | zero => exact h.elim | succ n => exact h, fun h => ⟨1, h⟩⟩
theorem R_agg {g : G} {ps : List PV} {c : Value} : R g (.agg ps) c ↔ ∃ cs : List Value, c = .agg cs.toArray ∧ Rs g ps cs := by
  constructor
  · rintro ⟨n, h⟩
    cases n with
    | zero => exact h.elim
    | succ n =>
      simp only [VR] at h
      obtain ⟨cs, h1, h2, h3⟩ := h
      exact ⟨cs, h1, h2, fun j p v hp hv => ⟨n, h3 j p v hp hv⟩⟩
  · rintro ⟨cs, h1, h2⟩
    obtain ⟨n, hn⟩ := VR_of_Rs h2
    exact ⟨n + 1, by simp only [VR]; exact ⟨cs, h1, h2.1, hn⟩⟩
theorem R_tup {g : G} {ps : List PV} {c : Value} : R g (.tup ps) c ↔ ∃ cs : List Value, c = .tuple cs.toArray ∧ Rs g ps cs := by
  constructor
  · rintro ⟨n, h⟩
    cases n with
    | zero => exact h.elim
    | succ n =>
      simp only [VR] at h
      obtain ⟨cs, h1, h2, h3⟩ := h
      exact ⟨cs, h1, h2, fun j p v hp hv => ⟨n, h3 j p v hp hv⟩⟩
  · rintro ⟨cs, h1, h2⟩
    obtain ⟨n, hn⟩ := VR_of_Rs h2
    exact ⟨n + 1, by simp only [VR]; exact ⟨cs, h1, h2.1, hn⟩⟩
theorem R_fn {g : G} {f : FuncId} {ps : List PV} {c : Value} : R g (.fn f ps) c ↔ ∃ cs : List Value, c = .func (.func f) #[] cs.toArray ∧ Rs g ps cs := by
  constructor
  · rintro ⟨n, h⟩
    cases n with
    | zero => exact h.elim
    | succ n =>
      simp only [VR] at h
      obtain ⟨cs, h1, h2, h3⟩ := h
      exact ⟨cs, h1, h2, fun j p v hp hv => ⟨n, h3 j p v hp hv⟩⟩
  · rintro ⟨cs, h1, h2⟩
    obtain ⟨n, hn⟩ := VR_of_Rs h2
    exact ⟨n + 1, by simp only [VR]; exact ⟨cs, h1, h2.1, hn⟩⟩
theorem R_list {g : G} {sz : Nat} {xs : List PV} {ex : Bool} {c : Value} : R g (.list sz xs ex) c ↔ ∃ a cap, c = .slice a xs.length cap ∧ (xs.length ≤ cap ∧ (a = none → cap = 0)) ∧ xs.length ≤ 9223372036854775807 ∧ (ex = true → cap = xs.length) ∧ (∀ x ∈ xs, x.bel 0 = true ∧ x.cells.length = sz) ∧
    (0 < xs.length → ∃ ad, a = some ad ∧ ad.spot = none ∧ g.frz ad.block ∧ ∀ (j : Nat) p, (xs.flatMap PV.cells)[j]? = some p → ∃ v, g.w.cell? (ad.add j) = some v ∧ R g p v) := by
  constructor
  · rintro ⟨n, h⟩
    cases n with
    | zero => exact h.elim
    | succ n =>
      simp only [VR] at h
      obtain ⟨a, cap, h1, h2, h3, h4, h5, h6⟩ := h
      refine ⟨a, cap, h1, h2, h3, h4, h5, fun h0 => ?_⟩
      obtain ⟨ad, e1, e2, e3, e4⟩ := h6 h0
      exact ⟨ad, e1, e2, e3, fun j p hp => let ⟨v, q1, q2⟩ := e4 j p hp; ⟨v, q1, n, q2⟩⟩
  · rintro ⟨a, cap, h1, h2, h3, h4, h5, h6⟩
    rcases Nat.eq_zero_or_pos xs.length with h0 | h0
    · exact ⟨1, by simp only [VR]; exact ⟨a, cap, h1, h2, h3, h4, h5, fun h' => by omega⟩⟩
    · obtain ⟨ad, e1, e2, e3, e4⟩ := h6 h0
      obtain ⟨n, hn⟩ := VR_of_cells e4
      exact ⟨n + 1, by simp only [VR]; exact ⟨a, cap, h1, h2, h3, h4, h5, fun _ => ⟨ad, e1, e2, e3, hn⟩⟩⟩
theorem R_fptr {g : G} {cs : List PV} {off : Nat} {c : Value} : R g (.fptr cs off) c ↔ ∃ ad : Addr, c = .pointer (some (ad.add off)) ∧ ad.spot = none ∧ g.frz ad.block ∧ ∀ (j : Nat) p, cs[j]? = some p → p.bel 0 = true ∧ ∃ v, g.w.cell? (ad.add j) = some v ∧ R g p v := by
  constructor
  · rintro ⟨n, h⟩
    cases n with
    | zero => exact h.elim
    | succ n =>
      simp only [VR] at h
      obtain ⟨ad, e1, e2, e3, e4⟩ := h
      exact ⟨ad, e1, e2, e3, fun j p hp => let ⟨q0, v, q1, q2⟩ := e4 j p hp; ⟨q0, v, q1, n, q2⟩⟩
  · rintro ⟨ad, e1, e2, e3, e4⟩
    obtain ⟨n, hn⟩ := VR_of_cells (g := g) (f := fun j => g.w.cell? (ad.add j)) fun j p hp => (e4 j p hp).2
    exact ⟨n + 1, by simp only [VR]; exact ⟨ad, e1, e2, e3, fun j p hp => ⟨(e4 j p hp).1, hn j p hp⟩⟩⟩
theorem R_tl {g : G} {sz : Nat} {xs : List PV} {c : Value} : R g (.tl sz xs) c ↔ ∃ a cap, c = .slice a xs.length cap ∧ (xs.length ≤ cap ∧ a.isSome = true) ∧ (∀ x ∈ xs, x.cells.length = sz) ∧
    (0 < xs.length → ∃ ad, a = some ad ∧ ad.spot = none ∧ g.frz ad.block ∧ ∀ (j : Nat) p, (xs.flatMap PV.cells)[j]? = some p → ∃ v, g.w.cell? (ad.add j) = some v ∧ R g p v) := by
  constructor
  · rintro ⟨n, h⟩
    cases n with
    | zero => exact h.elim
    | succ n =>
      simp only [VR] at h
      obtain ⟨a, cap, h1, h2, h5, h6⟩ := h
      refine ⟨a, cap, h1, h2, h5, fun h0 => ?_⟩
      obtain ⟨ad, e1, e2, e3, e4⟩ := h6 h0
      exact ⟨ad, e1, e2, e3, fun j p hp => let ⟨v, q1, q2⟩ := e4 j p hp; ⟨v, q1, n, q2⟩⟩
  · rintro ⟨a, cap, h1, h2, h5, h6⟩
    rcases Nat.eq_zero_or_pos xs.length with h0 | h0
    · exact ⟨1, by simp only [VR]; exact ⟨a, cap, h1, h2, h5, fun h' => by omega⟩⟩
    · obtain ⟨ad, e1, e2, e3, e4⟩ := h6 h0
      obtain ⟨n, hn⟩ := VR_of_cells e4
      exact ⟨n + 1, by simp only [VR]; exact ⟨a, cap, h1, h2, h5, fun _ => ⟨ad, e1, e2, e3, hn⟩⟩⟩
theorem R_own {g : G} {id ver off len : Nat} {c : Value} : R g (.own id ver off len) c ↔ ∃ a cap, c = .slice a len cap ∧ len ≤ cap ∧ ∃ sz es ver', g.σ[id]? = some (.row sz es ver') ∧ ver ≤ ver' ∧ (ver = ver' → off + len ≤ es.length ∧
        match g.ρ[id]? with
        | some (some b) => (0 < cap → a = some ⟨b, off * sz, none⟩) ∧ ∃ s, blockSize g.w b = some s ∧ (off + cap) * sz ≤ s
        | _ => cap = 0) :=
  ⟨fun ⟨n, h⟩ => by cases n with | zero => exact h.elim | succ n => simpa only [VR] using h, fun h => ⟨1, by simp only [VR]; exact h⟩⟩
theorem own_none {o : Option (Option Nat)} {a : Option Addr} {cap off sz : Nat} {w : World} (h : match o with
    | some (some b) => (0 < cap → a = some ⟨b, off * sz, none⟩) ∧ ∃ s, blockSize w b = some s ∧ (off + cap) * sz ≤ s
    | _ => cap = 0) (hn : a = none) : cap = 0 := by
  split at h
  · rcases Nat.eq_zero_or_pos cap with hc | hc
    · exact hc
    · have := h.1 hc; rw [hn] at this; cases this
  · exact h
theorem R_ptr {g : G} {id ver i off : Nat} {c : Value} : R g (.ptr id ver i off) c ↔ ∃ ad, c = .pointer (some ad) ∧ ∃ sz es ver', g.σ[id]? = some (.row sz es ver') ∧ ver ≤ ver' ∧ (ver = ver' → i < es.length ∧ ∃ b, g.ρ[id]? = some (some b) ∧ ad = ⟨b, i * sz + off, none⟩) :=
  ⟨fun ⟨n, h⟩ => by cases n with | zero => exact h.elim | succ n => simpa only [VR] using h, fun h => ⟨1, by simp only [VR]; exact h⟩⟩

/-- Each object's cells lie in its block. -/
structure St (g : G) : Prop where
  hid : (∀ b ∈ g.h, b < g.w.heap.size) ∧ ∀ (i b : Nat), g.ρ[i]? = some (some b) → b ∉ g.h
  len : g.ρ.length = g.σ.length
  inj : ∀ (i j b : Nat), g.ρ[i]? = some (some b) → g.ρ[j]? = some (some b) → i = j
  obj : ∀ (i : Nat) sz es ver, g.σ[i]? = some (.row sz es ver) →
    (∃ b cs e fr, g.ρ[i]? = some (some b) ∧ g.w.heap[b]? = some (.cells cs e fr) ∧ (∀ j, j < cs.size → ¬ (fr.1 ≤ j ∧ j < fr.2)) ∧ (∀ x ∈ es, x.cells.length = sz) ∧ es.length * sz ≤ cs.size ∧
      ∀ (j : Nat) p, (es.flatMap PV.cells)[j]? = some p → ∃ v, cs[j]? = some v ∧ R g p v) ∨
    (g.ρ[i]? = some none ∧ es = [])
  ty : ∀ (i b : Nat) sz es ver, g.σ[i]? = some (.row sz es ver) → 1000000 ≤ ver → g.ρ[i]? = some (some b) → ∃ cs fr, g.w.heap[b]? = some (.cells cs (ver / 1000000 - 1) fr)

theorem St.hidS {g g' : G} (hs : St g) (h : Step g g') : (∀ b ∈ g'.h, b < g'.w.heap.size) ∧ ∀ (i b : Nat), g'.ρ[i]? = some (some b) → b ∉ g'.h := by
  refine ⟨fun b hb => Nat.lt_of_lt_of_le (hs.hid.1 b (h.h ▸ hb)) h.size, fun i b hb hh => ?_⟩
  rw [h.h] at hh
  rcases h.own i b hb with h' | ⟨j, hj⟩
  · have := hs.hid.1 b hh; omega
  · exact hs.hid.2 j b hj hh

theorem St.empty {w : World} {h : List Nat} (k : ∀ b ∈ h, b < w.heap.size) : St ⟨[], [], w, h⟩ := ⟨⟨k, fun i b hi => by simp at hi⟩, rfl, fun i j b h => by simp at h, fun i sz es ver h => by simp at h, fun i b sz es ver h => by simp at h⟩

end Aw
end Go.Proofs.Ytoliadfdklfmfaa

set_option linter.unusedVariables false
set_option linter.unusedSimpArgs false
namespace Go.Proofs.Ytoliadfdklfmfaa
namespace Aw

structure FR (g : G) (fr : List PV) (a : Act) : Prop where
  defers : a.defers = []
  size : a.tmps.size = fr.length
  slot : ∀ (i : Nat) p, fr[i]? = some p → ∃ v, a.tmps[i]? = some v ∧ R g p v

/-- The frame and the state stand for the machine's, as they have come out of g0. -/
def Rel (g0 : G) (fr : List PV) (σ : List AObj) (a : Act) (w : World) : Prop := ∃ ρ, St ⟨σ, ρ, w, g0.h⟩ ∧ Step g0 ⟨σ, ρ, w, g0.h⟩ ∧ FR ⟨σ, ρ, w, g0.h⟩ fr a

/-- How code ends. -/
inductive X where
  | normal
  | exit (id : Nat)
  | ret
def X.to : X → Exit
  | .normal => .normal
  | .exit id => .exit id
  | .ret => .ret
abbrev Post := X → List PV → List AObj → Prop

def lift (g0 : G) (Q : Post) (e : Exit) (a : Act) (w : World) : Prop := ∃ x fr σ, e = X.to x ∧ Rel g0 fr σ a w ∧ Q x fr σ

/-- From each machine state for which the frame and the state stand, the code ends as Q says. n: how many objects there were when the function began. -/
def AW (P : Program) (n : Nat) (c : Code) (Q : Post) (fr : List PV) (σ : List AObj) : Prop :=
  ∀ g0 a w, g0.σ.length = n → Rel g0 fr σ a w → c.wp P (lift g0 Q) a w

/-- Whatever stands for fr and σ stands for fr' and σ', too. -/
def Imp (n : Nat) (fr : List PV) (σ : List AObj) (fr' : List PV) (σ' : List AObj) : Prop := ∀ g0 a w, g0.σ.length = n → Rel g0 fr σ a w → Rel g0 fr' σ' a w
theorem Imp.refl (n : Nat) (fr : List PV) (σ : List AObj) : Imp n fr σ fr σ := fun _ _ _ _ h => h
theorem Imp.trans {n : Nat} {fr fr' fr'' : List PV} {σ σ' σ'' : List AObj} (h : Imp n fr σ fr' σ') (k : Imp n fr' σ' fr'' σ'') : Imp n fr σ fr'' σ'' := fun g a w hn hr => k g a w hn (h g a w hn hr)

def thenA (next : List PV → List AObj → Prop) (Q : Post) : Post
  | .normal, fr, σ => next fr σ
  | e, fr, σ => Q e fr σ
def blockA (id : Nat) (Q : Post) : Post
  | .exit id', fr, σ => if id' = id then Q .normal fr σ else Q (.exit id') fr σ
  | e, fr, σ => Q e fr σ

section
variable {P : Program} {n : Nat} {Q : Post} {fr : List PV} {σ : List AObj}

theorem AW.imp {c : Code} {fr' : List PV} {σ' : List AObj} (h : Imp n fr σ fr' σ') (k : AW P n c Q fr' σ') : AW P n c Q fr σ :=
  fun g0 a w hn hr => k g0 a w hn (h g0 a w hn hr)
theorem AW.mono {c : Code} {Q' : Post} (h : AW P n c Q fr σ) (k : ∀ x fr σ, Q x fr σ → Q' x fr σ) : AW P n c Q' fr σ :=
  fun g0 a w hn hr => wp_mono (h g0 a w hn hr) fun e a w ⟨x, fr, σ, he, hr, hq⟩ => ⟨x, fr, σ, he, hr, k _ _ _ hq⟩
theorem AW_skip (h : Q .normal fr σ) : AW P n .skip Q fr σ := fun g0 a w hn hr => wp_skip ⟨.normal, fr, σ, rfl, hr, h⟩
theorem AW_exit {id : Nat} (h : Q (.exit id) fr σ) : AW P n (.exit id) Q fr σ := fun g0 a w hn hr => wp_exit ⟨.exit id, fr, σ, rfl, hr, h⟩
theorem AW_ret (h : Q .ret fr σ) : AW P n .ret Q fr σ := fun g0 a w hn hr => wp_ret ⟨.ret, fr, σ, rfl, hr, h⟩
theorem AW_seq {x y : Code} (h : AW P n x (thenA (AW P n y Q) Q) fr σ) : AW P n (.seq x y) Q fr σ := by
  intro g0 a w hn hr
  refine wp_seq (wp_mono (h g0 a w hn hr) ?_)
  rintro e a1 w1 ⟨z, fr1, σ1, rfl, hr1, hq⟩
  cases z with
  | normal => exact hq g0 a1 w1 hn hr1
  | exit id => exact ⟨.exit id, fr1, σ1, rfl, hr1, hq⟩
  | ret => exact ⟨.ret, fr1, σ1, rfl, hr1, hq⟩
theorem AW_block {id : Nat} {c : Code} (h : AW P n c (blockA id Q) fr σ) : AW P n (.block id c) Q fr σ := by
  intro g0 a w hn hr
  refine wp_block (wp_mono (h g0 a w hn hr) ?_)
  rintro e a1 w1 ⟨z, fr1, σ1, rfl, hr1, hq⟩
  cases z with
  | normal => exact ⟨.normal, fr1, σ1, rfl, hr1, hq⟩
  | ret => exact ⟨.ret, fr1, σ1, rfl, hr1, hq⟩
  | exit id' =>
    simp only [blockA] at hq
    simp only [X.to, Exit.inBlock]
    split
    · rename_i he; rw [if_pos he] at hq; exact ⟨.normal, fr1, σ1, rfl, hr1, hq⟩
    · rename_i he; rw [if_neg he] at hq; exact ⟨.exit id', fr1, σ1, rfl, hr1, hq⟩

/-! ### Operands -/
/-- An operand. -/
def aev (fr : List PV) : Operand → PV
  | .tmp t => fr.getD t .any
  | .const v => .val v
  | .func f => .val (.func (.func f) #[] #[])
  | .global _ => .any

theorem FR.ev {g : G} {a : Act} (h : FR g fr a) (x : Operand) : R g (aev fr x) (a.eval x) := by
  cases x with
  | tmp t =>
    simp only [aev, Act.eval]
    cases ht : fr[t]? with
    | none => simp [ht, R_any]
    | some p =>
      obtain ⟨v, hv, hr⟩ := h.slot t p ht
      simp [ht, hv, hr]
  | const v => exact R_val.2 rfl
  | func f => exact R_val.2 rfl
  | global g => exact R_any _ _

theorem AW_cond {c : Operand} {x y : Code} {b : Bool} (hc : aev fr c = .val (.bool b)) (hx : b = true → AW P n x Q fr σ) (hy : b = false → AW P n y Q fr σ) : AW P n (.cond c x y) Q fr σ := by
  intro g0 a w hn hr
  obtain ⟨ρ, hst, hs, hf⟩ := hr
  have he := hf.ev c
  rw [hc, R_val] at he
  exact wp_cond_split he (fun h => hx h g0 a w hn ⟨ρ, hst, hs, hf⟩) (fun h => hy h g0 a w hn ⟨ρ, hst, hs, hf⟩)

end

/-! ### A loop: one round and the loop again -/
theorem exitTo_length {id : Nat} : ∀ {k k' : List Item}, exitTo id k = some k' → k'.length < k.length
  | [], _, h => by simp [exitTo] at h
  | x :: k, k', h => by
    cases x with
    | inBlock id' =>
      simp only [exitTo] at h
      split at h
      · simp at h; subst h; simp
      · have := exitTo_length h; simp; omega
    | _ => simp only [exitTo] at h; have := exitTo_length h; simp; omega

theorem steps_swap {P : Program} {m1 m2 x m' : Machine} (s1 : step P m1 = .next x) (s2 : step P m2 = .next x) (hne : m' ≠ m1) (h : Steps P m1 m') : Steps P m2 m' := by
  obtain ⟨k, hk⟩ := h
  cases k with
  | zero => simp [runN] at hk; exact absurd hk.symm hne
  | succ k =>
    simp only [runN, s1] at hk
    exact Steps.head s2 ⟨k, hk⟩

theorem lone_ne_todo {b : Frame} {a a' : Act} {t t' : List Item} {cs : List Frame} {w w' : World} (h : t ≠ t') : lone (b.at a t) cs w ≠ lone (b.at a' t') cs w' := by
  intro e
  simp [lone, Frame.at] at e
  exact h e.2.2.1
theorem wp_loop_unroll {P : Program} {c : Code} {Q : Exit → Act → World → Prop} {a : Act} {w : World} (ho : ∀ a w, ¬ Q .outgrown a w) (hg : ∀ l a w, ¬ Q (.goto l) a w)
    (h : c.wp P (Exit.then ((Code.loop c).wp P Q) Q) a w) : (Code.loop c).wp P Q a w := by
  intro b k cs
  obtain ⟨e, a1, w1, hq, harr⟩ := h b (.inLoop c :: k) cs
  cases e with
  | normal =>
    obtain ⟨e2, a2, w2, hq2, harr2⟩ := hq b k cs
    refine ⟨e2, a2, w2, hq2, ?_⟩
    have hX : ∀ m', m' ≠ lone (b.at a1 (.code (.loop c) :: k)) cs w1 → Steps P (lone (b.at a1 (.code (.loop c) :: k)) cs w1) m' → Steps P (lone (b.at a (.code (.loop c) :: k)) cs w) m' :=
      fun m' hne hs => (Steps.head step_loop harr).trans (steps_swap step_loop step_inLoop hne hs)
    cases e2 with
    | normal => exact hX _ (lone_ne_todo (fun h => by have := congrArg List.length h; simp at this)) harr2
    | exit id => exact fun k' hk => hX _ (lone_ne_todo (fun h => by have := exitTo_length hk; rw [h] at this; simp at this; omega)) (harr2 k' hk)
    | goto l => exact (hg _ _ _ hq2).elim
    | ret =>
      obtain ⟨todo, hs⟩ := harr2
      exact ⟨todo, hX _ (fun h => by simp [lone, Frame.at] at h) hs⟩
    | panic ch =>
      obtain ⟨todo, hs⟩ := harr2
      exact ⟨todo, hX _ (fun h => by simp [lone, Frame.at] at h) hs⟩
    | outgrown => exact (ho _ _ hq2).elim
  | exit id => exact ⟨_, a1, w1, hq, .of_steps (.one step_loop) (.pass (x := .inLoop c) rfl (fun _ _ => .inl (by simp)) harr)⟩
  | goto l => exact ⟨_, a1, w1, hq, .of_steps (.one step_loop) (.pass (x := .inLoop c) rfl (fun _ _ => .inl (by simp)) harr)⟩
  | ret => exact ⟨_, a1, w1, hq, .of_steps (.one step_loop) (.pass (x := .inLoop c) rfl (fun _ _ => .inl (by simp)) harr)⟩
  | panic ch => exact ⟨_, a1, w1, hq, .of_steps (.one step_loop) (.pass (x := .inLoop c) rfl (fun _ _ => .inl (by simp)) harr)⟩
  | outgrown => exact (ho _ _ hq).elim

theorem lift_no {g0 : G} {Q : Post} {a : Act} {w : World} : ¬ lift g0 Q .outgrown a w := by
  rintro ⟨x, fr, σ, he, _⟩
  cases x <;> cases he
theorem lift_no_goto {g0 : G} {Q : Post} {l : Nat} {a : Act} {w : World} : ¬ lift g0 Q (.goto l) a w := by
  rintro ⟨x, fr, σ, he, _⟩
  cases x <;> cases he

theorem AW_loop {P : Program} {n : Nat} {Q : Post} {fr : List PV} {σ : List AObj} {c : Code} (h : AW P n c (thenA (AW P n (.loop c) Q) Q) fr σ) : AW P n (.loop c) Q fr σ := by
  intro g0 a w hn hr
  refine wp_loop_unroll (fun _ _ => lift_no) (fun _ _ _ => lift_no_goto) (wp_mono (h g0 a w hn hr) ?_)
  rintro e a1 w1 ⟨z, fr1, σ1, rfl, hr1, hq⟩
  cases z with
  | normal => exact hq g0 a1 w1 hn hr1
  | exit id => exact ⟨.exit id, fr1, σ1, rfl, hr1, hq⟩
  | ret => exact ⟨.ret, fr1, σ1, rfl, hr1, hq⟩

/-! ### Calls -/
/-- A call with these arguments from this state returns, and Q says what and behind which state. -/
def ACall (P : Program) (f : FuncId) (args : List PV) (σ : List AObj) (Q : PV → List AObj → Prop) : Prop :=
  ∀ (g : G) (vs : List Value), g.σ = σ → St g → Rs g args vs →
    Calls P f vs.toArray g.w fun e w' => ∃ v p σ' ρ', e = .returned v ∧ St ⟨σ', ρ', w', g.h⟩ ∧ Step g ⟨σ', ρ', w', g.h⟩ ∧ R ⟨σ', ρ', w', g.h⟩ p v ∧ Q p σ'

theorem ACall.mono {P : Program} {f : FuncId} {args : List PV} {σ : List AObj} {Q Q' : PV → List AObj → Prop} (h : ACall P f args σ Q) (k : ∀ p σ, Q p σ → Q' p σ) : ACall P f args σ Q' :=
  fun g vs hg hst hr => (h g vs hg hst hr).mono fun e w' ⟨v, p, σ', ρ', h1, h2, h3, h4, h5⟩ => ⟨v, p, σ', ρ', h1, h2, h3, h4, k _ _ h5⟩

/-- How a function's result variables are read, types resolved. -/
inductive ARes where
  | tmp (t : Nat)
  | cell (a : Nat) (n : Nat) (agg : Bool)

/-- The cells behind a pointer, from its place on. -/
def cellsAt (σ : List AObj) : PV → Option (List PV)
  | .fptr cs off => some (cs.drop off)
  | .ptr id ver i off => match σ[id]? with
    | some (.row _ es ver') => if ver = ver' then (es[i]?).map fun e => e.cells.drop off else none
    | _ => none
  | _ => none
/-- What a load of n cells gives. -/
def loadA (σ : List AObj) (p : PV) (n : Nat) (agg : Bool) : Option PV :=
  match cellsAt σ p with
  | some cs => if n ≤ cs.length then (if agg then some (.agg (cs.take n)) else cs.head?) else none
  | none => none
def ares1 (fr : List PV) (σ : List AObj) : ARes → Option PV
  | .tmp t => fr[t]?
  | .cell a n agg => loadA σ (fr.getD a .any) n agg

def objsBel (n : Nat) : List AObj → Bool
  | [] => true
  | .row _ es _ :: os => PV.bels n es && objsBel n os

end Aw
end Go.Proofs.Ytoliadfdklfmfaa

set_option linter.unusedVariables false
set_option linter.unusedSimpArgs false
namespace Go.Proofs.Ytoliadfdklfmfaa
namespace Aw

/-- A zero value, or a constant, as an abstract value. -/
def pvOf : Value → PV
  | .agg cs => .agg (cs.toList.map .val)
  | v => .val v

/-- One cell, of a known form. -/
def PV.one : PV → Bool
  | .val v => v.oneCell'
  | .list _ _ _ => true
  | .fptr _ _ => true
  | .own _ _ _ _ => true
  | .ptr _ _ _ _ => true
  | .fn _ _ => true
  | _ => false
/-- A value of one cell, or a struct of such. -/
def PV.okc : PV → Bool
  | .agg ps => ps.all PV.one
  | p => p.one

/-- A byte of a string. -/
def bt (s : ByteArray) (i : Int) : Int := ((s.data.toList.getD i.toNat 0).toNat : Int)

/-! ### Values -/
def intBin (op : BinOp) (k : IntKind) (x y : Int) : Option Value :=
  match op with
  | .add => some (.int k (k.wrap (x + y)))
  | .sub => some (.int k (k.wrap (x - y)))
  | .mul => some (.int k (k.wrap (x * y)))
  | .quo => if y = 0 then none else some (.int k (k.wrap (x.tdiv y)))
  | .rem => if y = 0 then none else some (.int k (x.tmod y))
  | .and => some (.int k (k.wrap (BitVec.ofInt k.bits x &&& BitVec.ofInt k.bits y).toNat))
  | .or => some (.int k (k.wrap (BitVec.ofInt k.bits x ||| BitVec.ofInt k.bits y).toNat))
  | .xor => some (.int k (k.wrap (BitVec.ofInt k.bits x ^^^ BitVec.ofInt k.bits y).toNat))
  | .andNot => some (.int k (k.wrap (BitVec.ofInt k.bits x &&& ~~~(BitVec.ofInt k.bits y)).toNat))
  | .eql => some (.bool (decide (x = y)))
  | .neq => some (.bool (!decide (x = y)))
  | .lss => some (.bool (decide (x < y)))
  | .leq => some (.bool (decide (x ≤ y)))
  | .gtr => some (.bool (decide (y < x)))
  | .geq => some (.bool (decide (y ≤ x)))
  | _ => none
def intShift (op : BinOp) (k : IntKind) (x y : Int) : Option Value :=
  match op with
  | .shl => if y < 0 then none else some (.int k (k.wrap (x * 2 ^ (min y.toNat k.bits))))
  | .shr => if y < 0 then none else some (.int k (x.fdiv (2 ^ (min y.toNat k.bits))))
  | _ => none
def strBin (op : BinOp) (x y : ByteArray) : Option Value :=
  match op with
  | .add => if x.size + y.size ≤ 9223372036854775807 then some (.string (x ++ y)) else none
  | .eql => some (.bool (decide (x = y)))
  | .neq => some (.bool (!decide (x = y)))
  | .lss => some (.bool (Op.bytesLess x.data.toList y.data.toList))
  | .gtr => some (.bool (!(Op.bytesLess x.data.toList y.data.toList || decide (x = y))))
  | _ => none
/-- Operators on whole numbers and strings: no type is asked. -/
def binV (op : BinOp) : Value → Value → Option Value
  | .int k x, .int k' y => match op with
    | .shl => intShift .shl k x y
    | .shr => intShift .shr k x y
    | op => if k = k' then intBin op k x y else none
  | .string x, .string y => strBin op x y
  | _, _ => none
/-- What a struct's field is: a bool, a whole number, a string. -/
inductive FK where
  | b
  | i (k : IntKind)
  | s
  deriving DecidableEq
/-- Equality of one-cell values. -/
def eqV : FK → PV → PV → Option Bool
  | .b, .val (.bool x), .val (.bool y) => some (decide (x = y))
  | .i k, .val (.int k1 x), .val (.int k2 y) => if k1 = k ∧ k2 = k then some (decide (x = y)) else none
  | .s, .val (.string x), .val (.string y) => some (decide (x = y))
  | _, _, _ => none
/-- Field by field, in order. -/
def eqVs : List FK → List PV → List PV → Option Bool
  | [], [], [] => some true
  | k :: ks, x :: xs, y :: ys => match eqV k x y, eqVs ks xs ys with
    | some b, some c => some (b && c)
    | _, _ => none
  | _, _, _ => none
/-- What may be nil. -/
inductive NK where
  | s
  | p
  | f
  deriving DecidableEq
/-- Is it nil? -/
def nilA : NK → PV → Option Bool
  | .s, .val (.slice none 0 0) => some true
  | .s, .tl _ _ => some false
  | .s, .list _ (_ :: _) _ => some false
  | .p, .val (.pointer none) => some true
  | .p, .fptr _ _ => some false
  | .p, .ptr _ _ _ _ => some false
  | .f, .val .nilFunc => some true
  | .f, .fn _ _ => some false
  | _, _ => none

/-! ### Slices and memory -/
/-- The elements of a slice. -/
def elemsA (σ : List AObj) : PV → Option (List PV)
  | .list _ xs _ => some xs
  | .own id ver off len => match σ[id]? with
    | some (.row _ es ver') => if ver = ver' then some ((es.drop off).take len) else none
    | _ => none
  | .val (.slice none 0 0) => some []
  | _ => none
def lenA : PV → Option Nat
  | .list _ xs _ => some xs.length
  | .tl _ xs => some xs.length
  | .own _ _ _ len => some len
  | .val (.slice none 0 0) => some 0
  | _ => none
/-- An element of which nothing is known. -/
def anyE (sz : Nat) : PV := if sz = 1 then .any else .agg (List.replicate sz .any)
/-- The capacity, where it is known. -/
def capA : PV → Option Nat
  | .list _ xs true => some xs.length
  | .val (.slice none 0 0) => some 0
  | _ => none
def lenS : PV → Option Nat
  | .val (.string s) => some s.size
  | _ => none
/-- The elements that an append takes from its second operand: strings, too. -/
def moreA (σ : List AObj) : PV → Option (List PV)
  | .tl _ xs => some xs
  | .val (.string s) => some (s.data.toList.map fun b => .val (.int .u8 b.toNat))
  | p => elemsA σ p
def setCells (e : PV) (off : Nat) (new : List PV) : PV :=
  match e with
  | .agg ps => .agg (ps.take off ++ new ++ ps.drop (off + new.length))
  | _ => new.headD .any
def setObj' (σ : List AObj) (id : Nat) (o : AObj) : List AObj := σ.set id o
/-- The numbers of a list of bytes. -/
def numsOf : List PV → Option (List Int)
  | [] => some []
  | .val (.int .u8 n) :: ps => (numsOf ps).map fun l => n :: l
  | _ => none

/-- What a strings.Builder is made of. -/
inductive BK where
  | allocT (T : TypeId) (zero : Value)
  | uns
  | noesc (f : FuncId)
  | funs (T : TypeId)
  | eqp (neg : Bool)
  | sdata
  | ustr (T : TypeId)
  | appn (T : TypeId) (sz bytes : Nat)
def BK.eff : BK → Bool
  | .allocT _ _ | .ustr _ | .appn _ _ _ => true
  | _ => false

/-- Operations, their types resolved. -/
inductive AI where
  | mv (x : Operand)
  | pick (c a b : Operand)
  | load (n : Nat) (agg : Bool) (a : Operand)
  | store (n : Nat) (a x : Operand)
  | faddr (a : Operand) (off : Nat)
  | field (x : Operand) (off n : Nat) (agg : Bool)
  | iaddrS (x i : Operand) (sz : Nat)
  | iaddrA (x i : Operand) (len sz : Nat)
  | idxStr (x i : Operand)
  | idxArr (x i : Operand) (len sz : Nat) (agg : Bool)
  | idxb (f : FuncId) (x c : Operand)
  | bin (op : BinOp) (x y : Operand)
  | mx (x y : Operand)
  | eqb (neg : Bool) (x y : Operand)
  | eqst (neg : Bool) (ks : List FK) (x y : Operand)
  | eqnil (neg : Bool) (left : Bool) (k : NK) (x : Operand)
  | un (op : UnOp) (x : Operand)
  | conv (k : IntKind) (x : Operand)
  | s2b (x : Operand)
  | b2s (x : Operand)
  | ext (x : Operand) (i : Nat)
  | nilc (x : Operand)
  | len (str : Bool) (x : Operand)
  | build (zero : List Value) (parts : List (Nat × Nat × Operand))
  | lits (fz : Bool) (sz len : Nat) (zero : Value) (parts : List (Nat × Operand))
  | mkfn (f : FuncId) (caps : List Operand)
  | slcS (x : Operand) (lo hi mx : Option Operand) (sz : Nat)
  | slcStr (x : Operand) (lo hi : Option Operand)
  | box (fz : Bool) (x : Operand)
  | alloc (zero : Value)
  | append (s x : Operand) (sz bytes : Nat)
  | make (l c : Operand) (sz bytes : Nat) (zero : Value)
  | cap (x : Operand)
  | bad
  | appz (s x : Operand) (sz bytes : Nat)
  | bld (k : BK) (xs : List Operand)

/-- An optional bound: its place. -/
def bnd (fr : List PV) (d : Nat) : Option Operand → Option Nat
  | none => some d
  | some x => match aev fr x with
    | .val (.int _ n) => if 0 ≤ n then some n.toNat else none
    | _ => none

def setAll (l : List PV) : List (Nat × PV) → List PV
  | [] => l
  | (i, p) :: r => setAll (l.set i p) r
/-- Parts of a struct laid into its cells. -/
def putParts (fr : List PV) : List PV → List (Nat × Nat × Operand) → Option (List PV)
  | cs, [] => some cs
  | cs, (off, n, x) :: r =>
    let p := aev fr x
    if p.okc && decide (p.cells.length = n) && decide (off + n ≤ cs.length) then putParts fr (cs.take off ++ p.cells ++ cs.drop (off + n)) r else none

/-- The first version of a row whose type is known (T), and whether a version is of that kind and has one behind it. -/
def verT : Option TypeId → Nat
  | none => 0
  | some T => (T + 1) * 1000000
def okVer : Option TypeId → Nat → Bool
  | none, v => decide (v < 999999)
  | some T, v => decide (v % 1000000 < 999999) && decide (v / 1000000 = T + 1)
/-- What an append gives; T: the row's type is known. -/
def appV (σ : List AObj) (T : Option TypeId) (s x : PV) (sz bytes : Nat) : Option (PV × List AObj) := match moreA σ x with
    | some ys => if ys.all fun y => y.okc && decide (y.cells.length = sz) then
        match s with
        | .own id ver off len => match σ[id]? with
          | some (.row sz' es ver') => if ver = ver' ∧ sz' = sz ∧ off = 0 ∧ len = es.length ∧ (len + ys.length) * bytes ≤ 140737488355328 ∧ okVer T ver = true then
              some (.own id (ver + 1) 0 (len + ys.length), σ.set id (.row sz (es ++ ys) (ver + 1))) else none
          | none => none
        | .list sz' xs true => if T = none ∧ sz' = sz ∧ (xs.length + ys.length) * bytes ≤ 140737488355328 ∧ (xs = [] ∨ ys ≠ []) ∧ (xs.all fun y => y.okc) then some (.own σ.length 0 0 (xs.length + ys.length), σ ++ [.row sz (xs ++ ys) 0]) else none
        | .val (.slice none 0 0) => if ys.length * bytes ≤ 140737488355328 ∧ (ys = [] → T = none) then some (.own σ.length (verT T) 0 ys.length, σ ++ [.row sz ys (verT T)]) else none
        | _ => none
      else none
    | none => none
/-- A builder's operations over abstract values. A version from 1000000 on says of what type the block is. -/
def bldA (σ : List AObj) : BK → List PV → Option (PV × List AObj)
  | .allocT T zero, [] => some (.ptr σ.length (verT (some T)) 0 0, σ ++ [.row (pvOf zero).cells.length [pvOf zero] (verT (some T))])
  | .uns, [.ptr id ver i off] => match σ[id]? with
    | some (.row sz es ver') => if ver = ver' ∧ i < es.length ∧ off < sz then some (.ptr id ver i off, σ) else none
    | none => none
  | .noesc _, [p] => some (p, σ)
  | .appn T sz bytes, [s, x] => match s with
    | .val (.slice none 0 0) => match moreA σ x with
      | some [] => some (.val (.slice none 0 0), σ)
      | _ => appV σ (some T) s x sz bytes
    | _ => appV σ (some T) s x sz bytes
  | .funs T, [.ptr id ver i off] => match σ[id]? with
    | some (.row sz es ver') => if ver = ver' ∧ ver / 1000000 = T + 1 ∧ i = 0 ∧ off = 0 ∧ 0 < es.length ∧ sz = 2 then some (.ptr id ver 0 0, σ) else none
    | none => none
  | .eqp neg, [.ptr id ver i off, .ptr id' ver2 i' off'] => match σ[id]? with
    | some (.row sz es ver') => if ver = ver' ∧ ver2 = ver' ∧ id = id' ∧ i = i' ∧ off = off' then some (.val (.bool (!neg)), σ) else none
    | none => none
  | .sdata, [.val (.slice none 0 0)] => some (.val (.pointer none), σ)
  | .sdata, [.own id ver off len] => match σ[id]? with
    | some (.row sz es ver') => if ver = ver' ∧ off = 0 ∧ sz = 1 ∧ 0 < len then some (.ptr id ver 0 0, σ) else none
    | none => none
  | .ustr _, [.val (.pointer none), .val (.int .i64 n)] => if n = 0 then some (.val (.string ByteArray.empty), σ) else none
  | .ustr T, [.ptr id ver i off, .val (.int .i64 n)] => match σ[id]? with
    | some (.row sz es ver') => if ver = ver' ∧ ver / 1000000 = T + 1 ∧ i = 0 ∧ off = 0 ∧ sz = 1 ∧ n = es.length ∧ 0 < n ∧ n ≤ 4611686018427387904 then match numsOf es with
      | some l => if l.all fun x => decide (0 ≤ x) && decide (x < 256) then some (.val (.string (strOfNums l)), σ.set id (.row 1 [] (ver + 1))) else none
      | none => none else none
    | none => none
  | _, _ => none
/-- What an operation gives and behind which state; none: not told. -/
def ai (fr : List PV) (σ : List AObj) : AI → Option (PV × List AObj)
  | .mv x => some (aev fr x, σ)
  | .pick c a b => match aev fr c with
    | .val (.bool t) => some (if t then aev fr a else aev fr b, σ)
    | _ => none
  | .load n agg a => (loadA σ (aev fr a) n agg).map fun p => (p, σ)
  | .store n a x => match aev fr a with
    | .ptr id ver i off => match σ[id]? with
      | some (.row sz es ver') =>
        if ver = ver' then
          match es[i]? with
          | some e =>
            let p := aev fr x
            if p.okc && decide (p.cells.length = n) && decide (0 < n) && decide (off + n ≤ e.cells.length) then some (.any, σ.set id (.row sz (es.set i (setCells e off p.cells)) ver)) else none
          | none => none
        else none
      | none => none
    | _ => none
  | .faddr a off => match aev fr a with
    | .fptr cs o => some (.fptr cs (o + off), σ)
    | .ptr id ver i o => some (.ptr id ver i (o + off), σ)
    | _ => none
  | .field x off n agg => match aev fr x with
    | .agg ps => if off + n ≤ ps.length then (if agg then some (.agg ((ps.drop off).take n), σ) else (ps[off]?).map fun p => (p, σ)) else none
    | _ => none
  | .iaddrS x i sz => match aev fr i with
    | .val (.int _ n) => match aev fr x with
      | .list sz' xs _ => if 0 ≤ n ∧ n < xs.length ∧ sz' = sz then (xs[n.toNat]?).map fun e => (.fptr e.cells 0, σ) else none
      | .own id ver off len => match σ[id]? with
        | some (.row sz' es ver') => if ver = ver' ∧ sz' = sz ∧ 0 ≤ n ∧ n < len then some (.ptr id ver (off + n.toNat) 0, σ) else none
        | none => none
      | _ => none
    | _ => none
  | .iaddrA x i len sz => match aev fr i with
    | .val (.int _ n) => if 0 ≤ n ∧ n < len then
        match aev fr x with
        | .fptr cs o => some (.fptr cs (o + n.toNat * sz), σ)
        | .ptr id ver j o => some (.ptr id ver j (o + n.toNat * sz), σ)
        | _ => none
      else none
    | _ => none
  | .idxStr x i => match aev fr x, aev fr i with
    | .val (.string s), .val (.int _ n) => if 0 ≤ n ∧ n < s.size then some (.val (.int .u8 (bt s n)), σ) else none
    | _, _ => none
  | .idxArr x i len sz agg => match aev fr x, aev fr i with
    | .agg ps, .val (.int _ n) => if 0 ≤ n ∧ n < len ∧ ps.length = len * sz then
        (if agg then some (.agg ((ps.drop (n.toNat * sz)).take sz), σ) else (ps[n.toNat * sz]?).map fun p => (p, σ)) else none
    | _, _ => none
  | .idxb _ x c => match aev fr x, aev fr c with
    | .val (.string s), .val (.int .u8 n) => some (.val (.int .i64 (firstIdx s n.toNat.toUInt8)), σ)
    | _, _ => none
  | .bin op x y => match aev fr x, aev fr y with
    | .val a, .val b => (binV op a b).map fun v => (.val v, σ)
    | _, _ => none
  | .mx x y => match aev fr x, aev fr y with
    | .val (.int k m), .val (.int _ n) => some (.val (.int k (max m n)), σ)
    | _, _ => none
  | .eqb neg x y => (eqV .b (aev fr x) (aev fr y)).map fun t => (.val (.bool (if neg then !t else t)), σ)
  | .eqst neg ks x y => match aev fr x, aev fr y with
    | .agg a, .agg b => (eqVs ks a b).map fun t => (.val (.bool (if neg then !t else t)), σ)
    | _, _ => none
  | .eqnil neg _ k x => (nilA k (aev fr x)).map fun t => (.val (.bool (if neg then !t else t)), σ)
  | .un .not x => match aev fr x with
    | .val (.bool b) => some (.val (.bool (!b)), σ)
    | _ => none
  | .un .neg x => match aev fr x with
    | .val (.int k n) => some (.val (.int k (k.wrap (0 - n))), σ)
    | _ => none
  | .un _ _ => none
  | .conv k x => match aev fr x with
    | .val (.int _ n) => some (.val (.int k (k.wrap n)), σ)
    | _ => none
  | .s2b x => match aev fr x with
    | .val (.string s) => some (.own σ.length 0 0 s.size, σ ++ [.row 1 (s.data.toList.map fun b => .val (.int .u8 b.toNat)) 0])
    | _ => none
  | .b2s x => match elemsA σ (aev fr x) with
    | some ps => (numsOf ps).map fun l => (.val (.string (strOfNums l)), σ)
    | none => none
  | .ext x i => match aev fr x with
    | .tup ps => (ps[i]?).map fun p => (p, σ)
    | _ => none
  | .nilc x => match aev fr x with
    | .fptr cs o => some (.fptr cs o, σ)
    | .ptr id ver i o => some (.ptr id ver i o, σ)
    | .fn f caps => some (.fn f caps, σ)
    | _ => none
  | .len str x => (if str then lenS (aev fr x) else lenA (aev fr x)).map fun n => (.val (.int .i64 n), σ)
  | .cap x => (capA (aev fr x)).map fun n => (.val (.int .i64 n), σ)
  | .bad => none
  | .appz s x sz bytes => match aev fr s, aev fr x with
    | .val (.slice none 0 0), .val (.int .i64 n) => if 0 < n ∧ n.toNat * bytes ≤ 140737488355328 then some (.own σ.length 0 0 n.toNat, σ ++ [.row sz (List.replicate n.toNat (anyE sz)) 0]) else none
    | _, _ => none
  | .bld k xs => bldA σ k (xs.map (aev fr))
  | .build zero parts => (putParts fr (zero.map .val) parts).map fun cs => (.agg cs, σ)
  | .lits fz sz len zero parts =>
    let es := setAll (List.replicate len (pvOf zero)) (parts.map fun q => (q.1, aev fr q.2))
    if es.length = len ∧ (parts.all fun q => (aev fr q.2).okc && decide ((aev fr q.2).cells.length = sz) && decide (q.1 < len)) then
      some (if fz then (if PV.bels 0 es then (.list sz es true, σ) else (.tl sz es, σ)) else (.own σ.length 0 0 len, σ ++ [.row sz es 0]))
    else none
  | .mkfn f caps => some (.fn f (caps.map (aev fr)), σ)
  | .slcS x lo hi mx sz => match aev fr x with
    | .list sz' xs ex => match bnd fr xs.length hi, bnd fr 0 lo with
      | some h, some l => if l ≤ h ∧ h ≤ xs.length ∧ sz' = sz then
          match mx with
          | none => some (.list sz ((xs.take h).drop l) (ex && decide (h = xs.length)), σ)
          | some m => match bnd fr 0 (some m) with
            | some m => if h ≤ m ∧ m ≤ xs.length then some (.list sz ((xs.take h).drop l) (decide (h = m)), σ) else none
            | none => none
        else none
      | _, _ => none
    | .own id ver off len => match σ[id]?, bnd fr len hi, bnd fr 0 lo with
      | some (.row sz' es ver'), some h, some l => if l ≤ h ∧ h ≤ len ∧ ver = ver' ∧ sz' = sz ∧ mx.isNone then some (.own id ver (off + l) (h - l), σ) else none
      | _, _, _ => none
    | .val (.slice none 0 0) => match bnd fr 0 hi, bnd fr 0 lo, bnd fr 0 mx with
      | some 0, some 0, some 0 => some (.val (.slice none 0 0), σ)
      | _, _, _ => none
    | _ => none
  | .slcStr x lo hi => match aev fr x with
    | .val (.string s) => match bnd fr s.size hi, bnd fr 0 lo with
      | some h, some l => if l ≤ h ∧ h ≤ s.size then some (.val (.string (s.extract l h)), σ) else none
      | _, _ => none
    | _ => none
  | .box fz x =>
    let p := aev fr x
    if p.okc ∧ (fz → p.bel 0) then some (if fz then (.fptr p.cells 0, σ) else (.ptr σ.length 0 0 0, σ ++ [.row p.cells.length [p] 0])) else none
  | .alloc zero => some (.ptr σ.length 0 0 0, σ ++ [.row (pvOf zero).cells.length [pvOf zero] 0])
  | .append s x sz bytes => match moreA σ (aev fr x) with
    | some ys => if ys.all fun y => y.okc && decide (y.cells.length = sz) then
        match aev fr s with
        | .own id ver off len => match σ[id]? with
          | some (.row sz' es ver') => if ver = ver' ∧ sz' = sz ∧ off = 0 ∧ len = es.length ∧ (len + ys.length) * bytes ≤ 140737488355328 ∧ ver < 999999 then
              some (.own id (ver + 1) 0 (len + ys.length), σ.set id (.row sz (es ++ ys) (ver + 1))) else none
          | none => none
        | .list sz' xs true => if sz' = sz ∧ (xs.length + ys.length) * bytes ≤ 140737488355328 ∧ (xs = [] ∨ ys ≠ []) ∧ (xs.all fun y => y.okc) then some (.own σ.length 0 0 (xs.length + ys.length), σ ++ [.row sz (xs ++ ys) 0]) else none
        | .val (.slice none 0 0) => if ys.length * bytes ≤ 140737488355328 then some (.own σ.length 0 0 ys.length, σ ++ [.row sz ys 0]) else none
        | _ => none
      else none
    | none => none
  | .make l c sz bytes zero => match aev fr l, aev fr c with
    | .val (.int .i64 n), .val (.int .i64 m) => if 0 ≤ n ∧ n ≤ m ∧ m * bytes ≤ 281474976710656 ∧ m ≤ 281474976710656 then some (.own σ.length 0 0 n.toNat, σ ++ [.row sz (List.replicate n.toNat (pvOf zero)) 0]) else none
    | _, _ => none

end Aw
end Go.Proofs.Ytoliadfdklfmfaa

set_option linter.unusedVariables false
set_option linter.unusedSimpArgs false
namespace Go.Proofs.Ytoliadfdklfmfaa
namespace Aw

/-! ### Equality of constants, as a test -/
/-- What an append gives where there are cells ahead of the slice: its cells stay where they are, or they are copied. -/
def ai2 (fr : List PV) (σ : List AObj) : AI → Option ((PV × List AObj) × (PV × List AObj))
  | .append s x sz bytes => match aev fr s with
    | .own id ver off len => match moreA σ (aev fr x) with
      | some ys => match σ[id]? with
        | some (.row sz' es ver') => if (ys.all fun y => y.okc && decide (y.cells.length = sz)) = true ∧ 0 < off ∧ ver = ver' ∧ sz' = sz ∧ off + len = es.length ∧ (len + ys.length) * bytes ≤ 140737488355328 ∧ ver < 999999 then
            some ((.own id (ver + 1) off (len + ys.length), σ.set id (.row sz (es ++ ys) (ver + 1))), (.own id (ver + 1) 0 (len + ys.length), σ.set id (.row sz (es.drop off ++ ys) (ver + 1)))) else none
        | none => none
      | none => none
    | _ => none
  | _ => none
def zeq1 : Value → Value → Bool
  | .bool a, .bool b => a == b
  | .int k a, .int k' b => k == k' && decide (a = b)
  | .string a, .string b => decide (a = b)
  | .pointer none, .pointer none => true
  | .slice none a b, .slice none c d => a == c && b == d
  | .map none, .map none => true
  | .nilFunc, .nilFunc => true
  | .nilIface, .nilIface => true
  | _, _ => false
def zeqs : List Value → List Value → Bool
  | [], [] => true
  | a :: as, b :: bs => zeq1 a b && zeqs as bs
  | _, _ => false
def zeq : Value → Value → Bool
  | .agg a, .agg b => zeqs a.toList b.toList
  | a, b => zeq1 a b
theorem zeq1_eq {a b : Value} (h : zeq1 a b = true) : a = b := by
  unfold zeq1 at h
  split at h <;> simp_all
theorem zeqs_eq : ∀ {a b : List Value}, zeqs a b = true → a = b
  | [], [], _ => rfl
  | [], _ :: _, h => by simp [zeqs] at h
  | _ :: _, [], h => by simp [zeqs] at h
  | a :: as, b :: bs, h => by
    simp only [zeqs, Bool.and_eq_true] at h
    rw [zeq1_eq h.1, zeqs_eq h.2]
theorem zeq_eq {a b : Value} (h : zeq a b = true) : a = b := by
  unfold zeq at h
  split at h
  · have := zeqs_eq h
    congr 1
    exact Array.toList_inj.1 this
  · exact zeq1_eq h
def oeq : Operand → Operand → Bool
  | .tmp a, .tmp b => a == b
  | .const a, .const b => zeq a b
  | .func a, .func b => a == b
  | _, _ => false
theorem oeq_eq {a b : Operand} (h : oeq a b = true) : a = b := by
  unfold oeq at h
  split at h
  · simp at h; rw [h]
  · rw [zeq_eq h]
  · simp at h; rw [h]
  · cases h
def ooeq : Option Operand → Option Operand → Bool
  | none, none => true
  | some a, some b => oeq a b
  | _, _ => false
theorem ooeq_eq {a b : Option Operand} (h : ooeq a b = true) : a = b := by
  unfold ooeq at h
  split at h
  · rfl
  · rw [oeq_eq h]
  · cases h
def oeqs : List Operand → List Operand → Bool
  | [], [] => true
  | a :: as, b :: bs => oeq a b && oeqs as bs
  | _, _ => false
theorem oeqs_eq : ∀ {a b : List Operand}, oeqs a b = true → a = b
  | [], [], _ => rfl
  | [], _ :: _, h => by simp [oeqs] at h
  | _ :: _, [], h => by simp [oeqs] at h
  | a :: as, b :: bs, h => by
    simp only [oeqs, Bool.and_eq_true] at h
    rw [oeq_eq h.1, oeqs_eq h.2]
def partsEq : List (Nat × Operand) → List (Nat × Operand) → Bool
  | [], [] => true
  | a :: as, b :: bs => a.1 == b.1 && oeq a.2 b.2 && partsEq as bs
  | _, _ => false
theorem partsEq_eq : ∀ {a b : List (Nat × Operand)}, partsEq a b = true → a = b
  | [], [], _ => rfl
  | [], _ :: _, h => by simp [partsEq] at h
  | _ :: _, [], h => by simp [partsEq] at h
  | (a, x) :: as, (b, y) :: bs, h => by
    simp only [partsEq, Bool.and_eq_true, beq_iff_eq] at h
    rw [h.1.1, oeq_eq h.1.2, partsEq_eq h.2]

/-! ### Types -/
section
variable (P : Program)
def isSliceOf (t e : TypeId) : Bool := match P.underlying t with | some (.slice e') => e' == e | _ => false
def sliceElem (t : TypeId) : Option TypeId := match P.underlying t with | some (.slice e) => some e | _ => none
def aggIs (t : TypeId) (b : Bool) : Bool := match P.underlying t with
  | some (.struct _) | some (.array _ _) => b
  | some _ => !b
  | none => false
def sizeIs (t : TypeId) (n : Nat) : Bool := match P.info? t with | some i => i.size == n | none => false
def bytesIs (t : TypeId) (n : Nat) : Bool := match P.info? t with | some i => i.bytes == n | none => false
def zeroIs (t : TypeId) (z : Value) : Bool := match P.info? t with
  | some i => (match i.zero with | some v => zeq v z | none => false)
  | none => false
def isStr (t : TypeId) : Bool := match P.underlying t with | some .string => true | _ => false
def isInt (t : TypeId) (k : IntKind) : Bool := match P.underlying t with | some (.int k') => k' == k | _ => false
def isBool (t : TypeId) : Bool := match P.underlying t with | some .bool => true | _ => false
def fkIs (t : TypeId) : FK → Bool
  | .b => isBool P t
  | .i k => isInt P t k
  | .s => isStr P t
/-- A struct's fields are these, one cell each, one behind the other. -/
def flatFrom (fs : List Field) (o : Nat) (ks : List FK) : Bool := match fs, ks with
  | [], [] => true
  | f :: r, k :: ks => f.offset == o && f.name != "_" && fkIs P f.type k && aggIs P f.type false && flatFrom r (o + 1) ks
  | _, _ => false
def isFlat (t : TypeId) (ks : List FK) : Bool := match P.underlying t with
  | some (.struct fs) => flatFrom P fs.toList 0 ks && !P.stoodInHeld t
  | _ => false
def placesOf (fs : Array Field) : Option (List (Nat × Nat)) := fs.toList.mapM (fun f => (P.info? f.type).map fun i => (f.offset, i.size))
def partSizes (fs : Array Field) : List (Nat × Operand) → List (Nat × Nat × Operand) → Bool
  | [], [] => true
  | (i, x) :: r, (off, n, y) :: r' => oeq x y && (match fs[i]? with | some f => f.offset == off && sizeIs P f.type n | none => false) && partSizes fs r r'
  | _, _ => false
def partSizesA (elem : TypeId) (sz : Nat) : List (Nat × Operand) → List (Nat × Nat × Operand) → Bool
  | [], [] => true
  | (i, x) :: r, (off, n, y) :: r' => oeq x y && (i * sz == off) && n == sz && partSizesA elem sz r r'
  | _, _ => false
def cellsOfZero (z : List Value) : Value → Bool
  | .agg cs => zeqs cs.toList z
  | _ => false

def isAppend (c : Call) : Bool := match c.callee with | .builtin .append => true | _ => false
def isIdxb (c : Call) (f : FuncId) : Bool := (match c.callee with | .value (.func f') => f' == f | _ => false) && (match P.funcs[f]? with | some fn => fn.name == "internal/bytealg.IndexByteString" && fn.origin == "" && fn.body.isNone | none => false)
def isNoesc (c : Call) (f : FuncId) : Bool := (match c.callee with | .value (.func f') => f' == f | _ => false) && (match P.funcs[f]? with | some fn => fn.name == "internal/abi.NoEscape" && fn.origin == "" && fn.body.isNone | none => false)
def isSdata (c : Call) : Bool := match c.callee with | .builtin .unsafeSliceData => true | _ => false
def isUstr (c : Call) : Bool := match c.callee with | .builtin .unsafeString => true | _ => false
def ptrTo (t : TypeId) : Option TypeId := match P.underlying t with | some (.pointer u) => some u | _ => none
def isUns (t : TypeId) : Bool := match P.underlying t with | some .unsafePointer => true | _ => false
def sizedT (t : TypeId) : Bool := match P.info? t with | some i => i.size != 0 | none => false
def infoT (t : TypeId) : Bool := (P.info? t).isSome
def isMax (c : Call) : Bool := match c.callee with | .builtin .max => true | _ => false
def isCap (c : Call) : Bool := match c.callee with | .builtin .cap => true | _ => false
def isLen (c : Call) : Bool := match c.callee with | .builtin .len => true | _ => false
def lenType (t : TypeId) (str : Bool) : Bool := match P.underlying t with | some (.slice _) => !str | some .string => str | _ => false
def noIntType (u : TypeId) : Bool := match P.underlying u with | some (.int _) => false | some _ => true | none => false
def zeroSize (e : TypeId) (sz : Nat) : Bool := match P.info? e with
  | some i => (match i.zero with | some z => z.cells.size == sz | none => false)
  | none => false
def appendTypes (ts : List TypeId) (sz bytes : Nat) : Bool := match ts with
  | [t, u] => (match P.underlying t with | some (.slice e) => sizeIs P e sz && bytesIs P e bytes && decide (0 < bytes) && decide (0 < sz) && zeroSize P e sz | _ => false) && noIntType P u
  | _ => false
def appzTypes (ts : List TypeId) (sz bytes : Nat) : Bool := match ts with
  | [t, u] => (match P.underlying t with | some (.slice e) => sizeIs P e sz && bytesIs P e bytes && decide (0 < bytes) && decide (0 < sz) && zeroSize P e sz | _ => false) && (match P.underlying u with | some (.int .i64) => true | _ => false)
  | _ => false
def nilType (t : TypeId) : NK → Bool
  | .s => match P.underlying t with | some (.slice _) => true | _ => false
  | .p => match P.underlying t with | some (.pointer _) => true | _ => false
  | .f => match P.underlying t with | some (.func _ _ _) => true | _ => false
def nilOf : NK → Value
  | .s => .slice none 0 0
  | .p => .pointer none
  | .f => .nilFunc
def lenTypes (str : Bool) (ts : List TypeId) : Bool := match ts with | [t] => lenType P t str | _ => false

/-- The operation is the one told. -/
def chkI (o : Oper) (i : AI) : Bool :=
  match o.op, i with
  | .move x, .mv y => oeq x y
  | .assign x, .mv y => oeq x y
  | .pick c a b, .pick c' a' b' => oeq c c' && oeq a a' && oeq b b'
  | .load t a, .load n agg a' => oeq a a' && aggIs P t agg && (if agg then sizeIs P t n else n == 1)
  | .store t a x, .store n a' x' => oeq a a' && oeq x x' && sizeIs P t n
  | .fieldAddr s a f, .faddr a' off => oeq a a' && (match P.underlying s with
    | some (.struct fs) => (match fs[f]? with | some fl => fl.offset == off && (match P.info? fl.type with | some i => i.size != 0 | none => false) | none => false)
    | _ => false)
  | .field s x f, .field x' off n agg => oeq x x' && (match P.underlying s with
    | some (.struct fs) => (match fs[f]? with | some fl => fl.offset == off && aggIs P fl.type agg && (if agg then sizeIs P fl.type n else n == 1) | none => false)
    | _ => false)
  | .indexAddr t x ix, .iaddrS x' ix' sz => oeq x x' && oeq ix ix' && (match P.underlying t with | some (.slice e) => sizeIs P e sz | _ => false)
  | .indexAddr t x ix, .iaddrA x' ix' len sz => oeq x x' && oeq ix ix' && (match P.underlying t with | some (.array n e) => n == len && sizeIs P e sz | _ => false)
  | .index t x ix, .idxStr x' ix' => oeq x x' && oeq ix ix' && isStr P t
  | .index t x ix, .idxArr x' ix' len sz agg => oeq x x' && oeq ix ix' && (match P.underlying t with | some (.array n e) => n == len && sizeIs P e sz && aggIs P e agg && (agg || sz == 1) | _ => false)
  | .binOp op t x y _, .bin op' x' y' => decide (op = op') && oeq x x' && oeq y y'
  | .binOp op t x y _, .eqb neg x' y' => decide (op = if neg then BinOp.neq else BinOp.eql) && oeq x x' && oeq y y' && isBool P t
  | .binOp op t x y _, .eqst neg ks x' y' => decide (op = if neg then BinOp.neq else BinOp.eql) && oeq x x' && oeq y y' && isFlat P t ks && !(P.eqGuardType P.depth t)
  | .binOp op t x y _, .eqnil neg left k x' => decide (op = if neg then BinOp.neq else BinOp.eql) && (if left then oeq y x' else oeq x x') && nilType P t k && oeq (if left then x else y) (.const (nilOf k))
  | .unOp op _ x, .un op' x' => decide (op = op') && oeq x x'
  | .convert src dst x, .conv k x' => oeq x x' && (match P.underlying src, P.underlying dst with | some (.int _), some (.int k') => k' == k | _, _ => false)
  | .convert src dst x, .s2b x' => oeq x x' && (match P.underlying src, P.underlying dst with | some .string, some (.slice e) => isInt P e .u8 | _, _ => false)
  | .convert src dst x, .b2s x' => oeq x x' && (match P.underlying src, P.underlying dst with | some (.slice e), some .string => isInt P e .u8 | _, _ => false)
  | .extract x i, .ext x' i' => oeq x x' && i == i'
  | .nilCheck x, .nilc x' => oeq x x'
  | .call c, .idxb f x y => isIdxb P c f && oeqs c.args.toList [x, y]
  | .call c, .mx x y => isMax c && oeqs c.args.toList [x, y]
  | .call c, .cap x => isCap c && oeqs c.args.toList [x] && lenTypes P false c.argTypes.toList
  | _, .bad => true
  | .call c, .appz s x sz bytes => isAppend c && oeqs c.args.toList [s, x] && appzTypes P c.argTypes.toList sz bytes
  | .call c, .len str x => isLen c && oeqs c.args.toList [x] && lenTypes P str c.argTypes.toList
  | .build t ps, .build zero ps' => (match P.info? t with | some i => (match i.zero with | some z => cellsOfZero zero z | none => false) | none => false) && zero.all (·.oneCell') && (match P.underlying t with
    | some (.struct fs) => (placesOf P fs).isSome && partSizes P fs ps.toList ps'
    | some (.array _ e) => (match P.info? e with | some i => partSizesA e i.size ps.toList ps' | none => false)
    | _ => false)
  | .buildSlice t len ps, .lits fz sz len' zero ps' => len == len' && partsEq ps.toList ps' && decide (len ≤ 16777216) && decide (0 < sz) && decide (len * sz ≤ 16777216) && decide ((pvOf zero).cells.length = sz) && (match P.underlying t with | some (.slice e) => sizeIs P e sz && zeroIs P e zero | _ => false)
  | .makeFunc fn first caps, .mkfn f caps' => (match fn with | .func f' => f' == f | _ => false) && first.isEmpty && oeqs caps.toList caps'
  | .slice t x lo hi mx, .slcS x' lo' hi' mx' sz => oeq x x' && ooeq lo lo' && ooeq hi hi' && ooeq mx mx' && (mx.isNone || hi.isSome) && (match P.underlying t with | some (.slice e) => sizeIs P e sz | _ => false)
  | .slice t x lo hi mx, .slcStr x' lo' hi' => oeq x x' && ooeq lo lo' && ooeq hi hi' && mx.isNone && isStr P t
  | .box _ x, .box _ x' => oeq x x'
  | .alloc t, .alloc zero => zeroIs P t zero
  | .call c, .append s x sz bytes => isAppend c && oeqs c.args.toList [s, x] && appendTypes P c.argTypes.toList sz bytes
  | .call c, .bld (.appn T sz bytes) [s, x] => isAppend c && oeqs c.args.toList [s, x] && appendTypes P c.argTypes.toList sz bytes && (match c.argTypes.toList with | t :: _ => sliceElem P t == some T | _ => false)
  | .alloc t, .bld (.allocT T zero) [] => t == T && zeroIs P t zero
  | .convert src dst x, .bld .uns [x'] => oeq x x' && isUns P dst && (match ptrTo P src with | some u => sizedT P u | none => false)
  | .convert src dst x, .bld (.funs T) [x'] => oeq x x' && isUns P src && decide (P.cellsOf T = 2) && (match ptrTo P dst with | some u => u == T && infoT P u | none => false)
  | .call c, .bld (.noesc f) [x] => isNoesc P c f && oeqs c.args.toList [x]
  | .binOp op t x y _, .bld (.eqp neg) [x', y'] => decide (op = if neg then BinOp.neq else BinOp.eql) && oeq x x' && oeq y y' && (match ptrTo P t with | some u => infoT P u | none => false)
  | .call c, .bld .sdata [x] => isSdata c && oeqs c.args.toList [x]
  | .call c, .bld (.ustr T) [x, y] => isUstr c && oeqs c.args.toList [x, y] && (match c.argTypes.toList with | [pt, _] => (match ptrTo P pt with | some e => e == T && decide (P.cellsOf e = 1) | none => false) | _ => false)
  | .makeSlice t l c, .make l' c' sz bytes zero => oeq l l' && oeq c c' && decide (0 < sz) && decide ((pvOf zero).cells.length = sz) && (match P.underlying t with | some (.slice e) => sizeIs P e sz && bytesIs P e bytes && zeroIs P e zero | _ => false)
  | _, _ => false
end

theorem isBool_eq {P : Program} {t : TypeId} (h : isBool P t = true) : P.underlying t = some .bool := by
  unfold isBool at h
  split at h
  · assumption
  · cases h
theorem isStr_eq {P : Program} {t : TypeId} (h : isStr P t = true) : P.underlying t = some .string := by
  unfold isStr at h
  split at h
  · assumption
  · cases h
theorem isInt_eq {P : Program} {t : TypeId} {k : IntKind} (h : isInt P t k = true) : P.underlying t = some (.int k) := by
  unfold isInt at h
  split at h
  · simp at h; subst h; assumption
  · cases h
theorem sizeIs_run {P : Program} {t : TypeId} {n : Nat} (h : sizeIs P t n = true) (w : World) : (sizeOf t).run P w = .ok n w := by
  unfold sizeIs at h
  split at h
  · rename_i i hi
    have := (beq_iff_eq.1 h)
    simp [sizeOf, typeInfo, hi, this]
  · cases h
theorem bytesIs_run {P : Program} {t : TypeId} {n : Nat} (h : bytesIs P t n = true) : ∃ i, P.info? t = some i ∧ i.bytes = n := by
  unfold bytesIs at h
  split at h
  · rename_i i hi; exact ⟨i, hi, beq_iff_eq.1 h⟩
  · cases h
theorem zeroIs_run {P : Program} {t : TypeId} {z : Value} (h : zeroIs P t z = true) (w : World) : (zeroValue t).run P w = .ok z w := by
  unfold zeroIs at h
  split at h
  · rename_i i hi
    split at h
    · rename_i v hv
      have := zeq_eq h
      simp [zeroValue, typeInfo, hi, hv, this]
    · cases h
  · cases h
theorem aggIs_run {P : Program} {t : TypeId} {b : Bool} (h : aggIs P t b = true) (w : World) : (isAgg t).run P w = .ok b w := by
  unfold aggIs at h
  cases hu : P.underlying t with
  | none => simp [hu] at h
  | some d =>
    rw [hu] at h
    cases d <;> simp at h <;> subst h <;> simp [isAgg, run_underlying hu]

end Aw
end Go.Proofs.Ytoliadfdklfmfaa

set_option linter.unusedVariables false
set_option linter.unusedSimpArgs false
namespace Go.Proofs.Ytoliadfdklfmfaa
namespace Aw

/-! ### Lists of cells -/
theorem flat_length {es : List PV} {sz : Nat} (h : ∀ x ∈ es, x.cells.length = sz) : (es.flatMap PV.cells).length = es.length * sz := by
  induction es with
  | nil => simp
  | cons e es ih =>
    rw [List.flatMap_cons, List.length_append, ih fun x hx => h x (List.mem_cons_of_mem _ hx), h e (List.mem_cons_self ..), List.length_cons, Nat.add_mul, Nat.one_mul, Nat.add_comm]
theorem flat_get {es : List PV} {sz : Nat} (h : ∀ x ∈ es, x.cells.length = sz) {i : Nat} {e : PV} (he : es[i]? = some e) {t : Nat} (ht : t < sz) : (es.flatMap PV.cells)[i * sz + t]? = e.cells[t]? := by
  induction es generalizing i with
  | nil => simp at he
  | cons x es ih =>
    have hx := h x (List.mem_cons_self ..)
    rw [List.flatMap_cons]
    cases i with
    | zero =>
      simp at he; subst he
      rw [Nat.zero_mul, Nat.zero_add, List.getElem?_append_left (by omega)]
    | succ i =>
      have he' : es[i]? = some e := by simpa using he
      rw [List.getElem?_append_right (by rw [hx, Nat.add_mul]; omega), hx, show (i + 1) * sz + t - sz = i * sz + t by rw [Nat.add_mul]; omega]
      exact ih (fun y hy => h y (List.mem_cons_of_mem _ hy)) he'
theorem addr_add_add {a : Addr} (h : a.spot = none) (m n : Nat) : (a.add m).add n = a.add (m + n) := by
  unfold Addr.add
  by_cases h1 : m = 0 <;> by_cases h2 : n = 0 <;> simp [h1, h2, Nat.add_assoc]
theorem addr_add_spot {a : Addr} (h : a.spot = none) (m : Nat) : (a.add m).spot = none := by
  unfold Addr.add
  split <;> simp [h]
theorem addr_add_mk (b o n : Nat) : (⟨b, o, none⟩ : Addr).add n = ⟨b, o + n, none⟩ := by
  unfold Addr.add
  split
  · rename_i h; simp [h]
  · rfl
theorem addr_eta {a : Addr} (h : a.spot = none) (n : Nat) : a.add n = ⟨a.block, a.off + n, none⟩ := by
  cases a with
  | mk b o s => simp at h; subst h; exact addr_add_mk b o n

theorem St.block_lt {g : G} (hs : St g) {i b : Nat} (h : g.ρ[i]? = some (some b)) : b < g.w.heap.size := by
  have hi : i < g.σ.length := by rw [← hs.len]; exact (List.getElem?_eq_some_iff.1 h).1
  cases hσ : g.σ[i]? with
  | none => exact absurd hi (by have := List.getElem?_eq_none_iff.1 hσ; omega)
  | some o =>
    cases o with
    | row sz es ver =>
      rcases hs.obj i sz es ver hσ with ⟨b', cs, e, fr, h1, h2, _⟩ | ⟨h1, _⟩
      · rw [h] at h1; simp at h1; subst h1; exact (Array.getElem?_eq_some_iff.1 h2).1
      · rw [h] at h1; simp at h1

/-- The cells behind a pointer are there, and are as told. -/
theorem cellsAt_sound {g : G} (hs : St g) {p : PV} {cs : List PV} {c : Value} (h : cellsAt g.σ p = some cs) (hr : R g p c) :
    ∃ ad : Addr, c = .pointer (some ad) ∧ ad.spot = none ∧ ∀ (j : Nat) q, cs[j]? = some q → ∃ v, g.w.cell? (ad.add j) = some v ∧ R g q v := by
  unfold cellsAt at h
  split at h
  · rename_i ps off
    injection h with h; subst h
    obtain ⟨ad, h1, h2, h3, h4⟩ := R_fptr.1 hr
    refine ⟨ad.add off, h1, addr_add_spot h2 _, fun j q hq => ?_⟩
    rw [addr_add_add h2]
    rw [List.getElem?_drop] at hq
    exact (h4 (off + j) q hq).2
  · rename_i id ver i off
    split at h
    · rename_i sz es ver' hσ
      split at h
      · rename_i hv
        cases he : es[i]? with
        | none => rw [he] at h; simp at h
        | some e =>
          rw [he] at h; simp at h; subst h
          obtain ⟨ad, q0, sz', es', ver'', k1, k2, k3⟩ := R_ptr.1 hr
          rw [hσ] at k1; simp at k1; obtain ⟨rfl, rfl, rfl⟩ := k1
          obtain ⟨q1, b, q2, q3⟩ := k3 hv
          subst q3
          rcases hs.obj id _ _ _ hσ with ⟨b', cs, el, fz, r1, r2, _, r3, r4, r5⟩ | ⟨r1, r2⟩
          · rw [q2] at r1; simp at r1; subst r1
            refine ⟨_, q0, rfl, fun j q hq => ?_⟩
            rw [List.getElem?_drop] at hq
            have hlt : off + j < sz := by
              have := (List.getElem?_eq_some_iff.1 hq).1
              rw [r3 e (List.mem_of_getElem? he)] at this; exact this
            obtain ⟨v, hv1, hv2⟩ := r5 (i * sz + (off + j)) q (by rw [flat_get r3 he hlt]; exact hq)
            refine ⟨v, ?_, hv2⟩
            rw [addr_add_mk]
            simp only [World.cell?, r2]
            rw [Nat.add_assoc]
            simpa using hv1
          · rw [r2] at he; simp at he
      · cases h
    · cases h
  · cases h

/-- What an operation comes to. -/
def Gives (P : Program) (g : G) (o : Oper) (a : Act) (p : PV) (σ' : List AObj) : Prop :=
  ∃ nx v w' ρ', (execOp a.eval o).run P g.w = .ok nx w' ∧ (nx = .value v ∨ (nx = .skip ∧ v = undef)) ∧ St ⟨σ', ρ', w', g.h⟩ ∧ Step g ⟨σ', ρ', w', g.h⟩ ∧ R ⟨σ', ρ', w', g.h⟩ p v

theorem Gives.same {P : Program} {g : G} {o : Oper} {a : Act} {p : PV} {v : Value} (hs : St g) (h : (execOp a.eval o).run P g.w = .ok (.value v) g.w) (hr : R g p v) : Gives P g o a p g.σ :=
  ⟨_, v, g.w, g.ρ, h, .inl rfl, hs, Step.refl g, hr⟩

/-- Only the count of draws has turned. -/
theorem St.drew {g : G} (hs : St g) : St ⟨g.σ, g.ρ, { g.w with drawn := g.w.drawn + 1 }, g.h⟩ ∧ Step g ⟨g.σ, g.ρ, { g.w with drawn := g.w.drawn + 1 }, g.h⟩ := by
  have hst : Step g ⟨g.σ, g.ρ, { g.w with drawn := g.w.drawn + 1 }, g.h⟩ := ⟨rfl, rfl, rfl, rfl, Nat.le_refl _, fun _ _ _ => rfl, fun i b h => .inr ⟨i, h⟩, fun i sz es ver h => ⟨es, ver, h, Nat.le_refl _, fun _ => ⟨Nat.le_refl _, rfl, fun _ _ => rfl⟩⟩⟩
  refine ⟨⟨hs.hidS hst, hs.len, hs.inj, fun i sz es ver h => ?_, hs.ty⟩, hst⟩
  rcases hs.obj i sz es ver h with ⟨b, cs, e, fr, h1, h2, h3, h4, h5, h6⟩ | h'
  · exact .inl ⟨b, cs, e, fr, h1, h2, h3, h4, h5, fun j p hp => let ⟨v, q1, q2⟩ := h6 j p hp; ⟨v, q1, q2.step hst⟩⟩
  · exact .inr h'

section
variable {P : Program} {g : G} {fr : List PV} {a : Act} {o : Oper} {p : PV} {σ' : List AObj}

theorem Rs.get {ps : List PV} {cs : List Value} (h : Rs g ps cs) {j : Nat} {q : PV} (hq : ps[j]? = some q) : ∃ v, cs[j]? = some v ∧ R g q v := by
  have hj : j < cs.length := by rw [h.1]; exact (List.getElem?_eq_some_iff.1 hq).1
  exact ⟨cs[j], List.getElem?_eq_getElem hj, h.2 j q _ hq (List.getElem?_eq_getElem hj)⟩
theorem Rs.drop {ps : List PV} {cs : List Value} (h : Rs g ps cs) (n : Nat) : Rs g (ps.drop n) (cs.drop n) :=
  ⟨by simp [h.1], fun j q v hq hv => h.2 (n + j) q v (by simpa [List.getElem?_drop] using hq) (by simpa [List.getElem?_drop] using hv)⟩
theorem Rs.take {ps : List PV} {cs : List Value} (h : Rs g ps cs) (n : Nat) : Rs g (ps.take n) (cs.take n) :=
  ⟨by simp [h.1], fun j q v hq hv => by
    rw [List.getElem?_take] at hq hv
    split at hq
    · rename_i hj; rw [if_pos hj] at hv; exact h.2 j q v hq hv
    · cases hq⟩
theorem Rs.append {ps qs : List PV} {cs ds : List Value} (h : Rs g ps cs) (k : Rs g qs ds) : Rs g (ps ++ qs) (cs ++ ds) := by
  refine ⟨by simp [h.1, k.1], fun j q v hq hv => ?_⟩
  rcases Nat.lt_or_ge j ps.length with hj | hj
  · rw [List.getElem?_append_left hj] at hq
    rw [List.getElem?_append_left (by rw [h.1]; exact hj)] at hv
    exact h.2 j q v hq hv
  · rw [List.getElem?_append_right hj] at hq
    rw [List.getElem?_append_right (by rw [h.1]; exact hj), h.1] at hv
    exact k.2 _ q v hq hv
theorem R.one {q : PV} {u : Value} (h2 : R g q u) (h1 : q.one = true) : u.oneCell' = true := by
  cases q with
  | val w => rw [R_val] at h2; subst h2; exact h1
  | list => obtain ⟨_, _, rfl, _⟩ := R_list.1 h2; rfl
  | fptr => obtain ⟨_, rfl, _⟩ := R_fptr.1 h2; rfl
  | fn => obtain ⟨_, rfl, _⟩ := R_fn.1 h2; rfl
  | own => obtain ⟨_, _, rfl, _⟩ := R_own.1 h2; rfl
  | ptr => obtain ⟨_, rfl, _⟩ := R_ptr.1 h2; rfl
  | _ => simp [PV.one] at h1
theorem cells_one {v : Value} (h : v.oneCell' = true) : v.cells = #[v] := by cases v <;> first | rfl | simp [Value.oneCell'] at h
theorem PV.one_cells {q : PV} (h : q.one = true) : q.cells = [q] := by cases q <;> first | rfl | simp [PV.one] at h
/-- A value's cells. -/
theorem R.cells {q : PV} {v : Value} (h : R g q v) (hq : q.okc = true) : Rs g q.cells v.cells.toList ∧ ∀ u ∈ v.cells.toList, u.oneCell' = true := by
  by_cases h1 : q.one = true
  · have h2 := h.one h1
    rw [cells_one h2, PV.one_cells h1]
    refine ⟨⟨rfl, fun j r u hr hu => ?_⟩, fun u hu => by simp at hu; subst hu; exact h2⟩
    cases j with
    | zero => simp at hr hu; subst hr; subst hu; exact h
    | succ j => simp at hr
  · cases q with
    | agg ps =>
      obtain ⟨cs, rfl, hcs⟩ := R_agg.1 h
      simp only [PV.okc, List.all_eq_true] at hq
      refine ⟨hcs, fun u hu => ?_⟩
      simp only [Value.cells, List.toList_toArray] at hu
      obtain ⟨j, hj, rfl⟩ := List.getElem_of_mem hu
      have hj' : j < ps.length := by rw [← hcs.1]; exact hj
      exact (hcs.2 j ps[j] cs[j] (List.getElem?_eq_getElem hj') (List.getElem?_eq_getElem hj)).one (hq _ (List.getElem_mem hj'))
    | _ => exact absurd hq h1

/-! ### Operations that read -/
theorem g_mv {x : Operand} (hs : St g) (hf : FR g fr a) (ho : o.op = .move x ∨ o.op = .assign x) : Gives P g o a (aev fr x) g.σ := by
  refine Gives.same hs (v := a.eval x) ?_ (hf.ev x)
  unfold execOp
  rcases ho with h | h <;> simp [h]
theorem g_pick {c x y : Operand} {t : Bool} (hs : St g) (hf : FR g fr a) (ho : o.op = .pick c x y) (hc : aev fr c = .val (.bool t)) : Gives P g o a (if t then aev fr x else aev fr y) g.σ := by
  have h := hf.ev c
  rw [hc, R_val] at h
  refine Gives.same hs (v := if t then a.eval x else a.eval y) ?_ (by cases t <;> simp [hf.ev])
  unfold execOp
  simp [ho, h, asBool]
theorem g_load {n : Nat} {agg : Bool} {t : TypeId} {x : Operand} (hs : St g) (hf : FR g fr a) (ho : o.op = .load t x) (ha : aggIs P t agg = true) (hn : (if agg then sizeIs P t n else n == 1) = true)
    (h : loadA g.σ (aev fr x) n agg = some p) : Gives P g o a p g.σ := by
  unfold loadA at h
  split at h
  · rename_i cs hcs
    obtain ⟨ad, e1, e2, e3⟩ := cellsAt_sound hs hcs (hf.ev x)
    split at h
    · rename_i hle
      cases agg with
      | true =>
        simp only [if_true] at h hn
        injection h with h; subst h
        have hc : ∃ vs : List Value, vs.length = n ∧ (∀ (j : Nat) v, vs[j]? = some v → g.w.cell? (ad.add j) = some v) ∧ Rs g (cs.take n) vs := by
          clear hn ha ho
          induction n with
          | zero => exact ⟨[], rfl, fun j v hv => by simp at hv, ⟨by simp, fun j q v hq => by simp at hq⟩⟩
          | succ n ih =>
            obtain ⟨vs, h1, h2, h3⟩ := ih (by omega)
            obtain ⟨v, hv1, hv2⟩ := e3 n cs[n] (List.getElem?_eq_getElem (by omega))
            refine ⟨vs ++ [v], by simp [h1], fun j u hu => ?_, ?_⟩
            · rcases Nat.lt_or_ge j n with hj | hj
              · rw [List.getElem?_append_left (by omega)] at hu; exact h2 j u hu
              · rw [List.getElem?_append_right (by omega)] at hu
                have : j = n := by
                  have := (List.getElem?_eq_some_iff.1 hu).1
                  simp at this; omega
                subst this
                simp [h1] at hu; subst hu; exact hv1
            · rw [List.take_succ_eq_append_getElem (by omega)]
              exact h3.append ⟨rfl, fun j q u hq hu => by
                cases j with
                | zero => simp at hq hu; subst hq; subst hu; exact hv2
                | succ j => simp at hq⟩
        obtain ⟨vs, h1, h2, h3⟩ := hc
        refine Gives.same hs (v := .agg vs.toArray) ?_ (R_agg.2 ⟨vs, rfl, h3⟩)
        have hl := run_loadCells_list (P := P) g.w ad vs h2
        rw [h1] at hl
        unfold execOp
        simp [ho, e1, Instr.loadAt, Instr.sureAddr, loadVar, aggIs_run ha, sizeIs_run hn, hl]
      | false =>
        simp at h hn
        subst hn
        cases cs with
        | nil => simp at hle
        | cons q cs =>
          simp at h; subst h
          obtain ⟨v, hv1, hv2⟩ := e3 0 q (by simp)
          refine Gives.same hs (v := v) ?_ hv2
          have h0 : ad.add 0 = ad := rfl
          rw [h0] at hv1
          unfold execOp
          simp [ho, e1, Instr.loadAt, Instr.sureAddr, loadVar, aggIs_run ha, hv1]
    · cases h
  · cases h
end

end Aw
end Go.Proofs.Ytoliadfdklfmfaa
