/- Abstract values and states over the machine's worlds: what a slot holds, said without tapes, capacities and block numbers. -/
import Derived.Calls
import Derived.Orders
import Derived.Below
set_option linter.unusedVariables false
set_option linter.unusedSimpArgs false
namespace Go.Proofs.Ytegjfjckijmgcaa
namespace Aw

/-- Abstract values. `list`: a slice whose cells nobody will write again (element size, elements, is the capacity just the length). `fptr`: a pointer into cells that nobody will write again.
`tl`: a literal's cells that nobody will write again, with any elements.
`own`, `ptr`: a slice of, a pointer into an object of the state (its number, its version). -/
inductive PV where
  | any
  | val (v : Value)
  | agg (ps : List PV)
  | tup (ps : List PV)
  | list (sz : Nat) (xs : List PV) (ex : Bool)
  | fptr (cs : List PV) (off : Nat)
  | own (id ver off len : Nat)
  | ptr (id ver i off : Nat)
  | fn (f : FuncId) (caps : List PV)
  | tl (sz : Nat) (xs : List PV)
  deriving Inhabited

/-- An object of the state: rows of elements of one size, with a version that turns when the row may move. -/
inductive AObj where
  | row (sz : Nat) (es : List PV) (ver : Nat)

def PV.cells : PV → List PV
  | .agg ps => ps
  | p => [p]

mutual
/-- No reference in it goes to an object from n on. -/
def PV.bel (n : Nat) : PV → Bool
  | .agg ps => PV.bels n ps
  | .tup ps => PV.bels n ps
  | .own id _ _ _ => decide (id < n)
  | .ptr id _ _ _ => decide (id < n)
  | .fn _ caps => PV.bels n caps
  | .any => true
  | .val _ => true
  | .list _ _ _ => true
  | .fptr _ _ => true
  | .tl _ xs => PV.bels n xs
def PV.bels (n : Nat) : List PV → Bool
  | [] => true
  | p :: ps => PV.bel n p && PV.bels n ps
end

theorem PV.bels_iff {n : Nat} : ∀ {ps : List PV}, PV.bels n ps = true ↔ ∀ p ∈ ps, p.bel n = true
  | [] => by simp [PV.bels]
  | p :: ps => by simp [PV.bels, PV.bels_iff (ps := ps)]

/-- A state: the objects, the block of each (none: it has no cells yet), the world; blocks that others keep for themselves. -/
structure G where
  σ : List AObj
  ρ : List (Option Nat)
  w : World
  h : List Nat

/-- A block that no object has: it is never written again. -/
def G.frz (g : G) (b : Nat) : Prop := b < g.w.heap.size ∧ (∀ i : Nat, g.ρ[i]? ≠ some (some b)) ∧ b ∉ g.h

def blockSize (w : World) (b : Nat) : Option Nat := match w.heap[b]? with
  | some (.cells cs _ _) => some cs.size
  | _ => none

/-- What an abstract value says of a value (n: how deep it is looked at). -/
def VR (g : G) : Nat → PV → Value → Prop
  | 0, _, _ => False
  | n + 1, p, c => match p with
    | .any => True
    | .val v => c = v
    | .agg ps => ∃ cs : List Value, c = .agg cs.toArray ∧ cs.length = ps.length ∧ ∀ (j : Nat) p v, ps[j]? = some p → cs[j]? = some v → VR g n p v
    | .tup ps => ∃ cs : List Value, c = .tuple cs.toArray ∧ cs.length = ps.length ∧ ∀ (j : Nat) p v, ps[j]? = some p → cs[j]? = some v → VR g n p v
    | .list sz xs ex => ∃ a cap, c = .slice a xs.length cap ∧ (xs.length ≤ cap ∧ (a = none → cap = 0)) ∧ xs.length ≤ 9223372036854775807 ∧ (ex = true → cap = xs.length) ∧ (∀ x ∈ xs, x.bel 0 = true ∧ x.cells.length = sz) ∧
        (0 < xs.length → ∃ ad, a = some ad ∧ ad.spot = none ∧ g.frz ad.block ∧ ∀ (j : Nat) p, (xs.flatMap PV.cells)[j]? = some p → ∃ v, g.w.cell? (ad.add j) = some v ∧ VR g n p v)
    | .tl sz xs => ∃ a cap, c = .slice a xs.length cap ∧ (xs.length ≤ cap ∧ a.isSome = true) ∧ (∀ x ∈ xs, x.cells.length = sz) ∧
        (0 < xs.length → ∃ ad, a = some ad ∧ ad.spot = none ∧ g.frz ad.block ∧ ∀ (j : Nat) p, (xs.flatMap PV.cells)[j]? = some p → ∃ v, g.w.cell? (ad.add j) = some v ∧ VR g n p v)
    | .fptr cs off => ∃ ad : Addr, c = .pointer (some (ad.add off)) ∧ ad.spot = none ∧ g.frz ad.block ∧ ∀ (j : Nat) p, cs[j]? = some p → p.bel 0 = true ∧ ∃ v, g.w.cell? (ad.add j) = some v ∧ VR g n p v
    | .own id ver off len => ∃ a cap, c = .slice a len cap ∧ len ≤ cap ∧ ∃ sz es ver', g.σ[id]? = some (.row sz es ver') ∧ ver ≤ ver' ∧ (ver = ver' → off + len ≤ es.length ∧
        match g.ρ[id]? with
        | some (some b) => (0 < cap → a = some ⟨b, off * sz, none⟩) ∧ ∃ s, blockSize g.w b = some s ∧ (off + cap) * sz ≤ s
        | _ => cap = 0)
    | .ptr id ver i off => ∃ ad, c = .pointer (some ad) ∧ ∃ sz es ver', g.σ[id]? = some (.row sz es ver') ∧ ver ≤ ver' ∧ (ver = ver' → i < es.length ∧ ∃ b, g.ρ[id]? = some (some b) ∧ ad = ⟨b, i * sz + off, none⟩)
    | .fn f caps => ∃ cs : List Value, c = .func (.func f) #[] cs.toArray ∧ cs.length = caps.length ∧ ∀ (j : Nat) p v, caps[j]? = some p → cs[j]? = some v → VR g n p v

/-- The value is as the abstract value says. -/
def R (g : G) (p : PV) (c : Value) : Prop := ∃ n, VR g n p c

theorem VR.succ {g : G} : ∀ {n : Nat} {p : PV} {c : Value}, VR g n p c → VR g (n + 1) p c
  | 0, _, _, h => h.elim
  | n + 1, p, c, h => by
    have ih := @VR.succ g n
    cases p with
    | any => trivial
    | val v => exact h
    | agg ps =>
      simp only [VR] at h ⊢
      obtain ⟨cs, h1, h2, h3⟩ := h
      exact ⟨cs, h1, h2, fun j p v hp hv => ih (h3 j p v hp hv)⟩
    | tup ps =>
      simp only [VR] at h ⊢
      obtain ⟨cs, h1, h2, h3⟩ := h
      exact ⟨cs, h1, h2, fun j p v hp hv => ih (h3 j p v hp hv)⟩
    | list sz xs ex =>
      simp only [VR] at h ⊢
      obtain ⟨a, cap, h1, h2, h3, h4, h5, h6⟩ := h
      refine ⟨a, cap, h1, h2, h3, h4, h5, fun h0 => ?_⟩
      obtain ⟨ad, e1, e2, e3, e4⟩ := h6 h0
      exact ⟨ad, e1, e2, e3, fun j p hp => let ⟨v, q1, q2⟩ := e4 j p hp; ⟨v, q1, ih q2⟩⟩
    | tl sz xs =>
      simp only [VR] at h ⊢
      obtain ⟨a, cap, h1, h2, h3, h6⟩ := h
      refine ⟨a, cap, h1, h2, h3, fun h0 => ?_⟩
      obtain ⟨ad, e1, e2, e3, e4⟩ := h6 h0
      exact ⟨ad, e1, e2, e3, fun j p hp => let ⟨v, q1, q2⟩ := e4 j p hp; ⟨v, q1, ih q2⟩⟩
    | fptr cs off =>
      simp only [VR] at h ⊢
      obtain ⟨ad, e1, e2, e3, e4⟩ := h
      exact ⟨ad, e1, e2, e3, fun j p hp => let ⟨q0, v, q1, q2⟩ := e4 j p hp; ⟨q0, v, q1, ih q2⟩⟩
    | own id ver off len => simp only [VR] at h ⊢; exact h
    | ptr id ver i off => simp only [VR] at h ⊢; exact h
    | fn f caps =>
      simp only [VR] at h ⊢
      obtain ⟨cs, h1, h2, h3⟩ := h
      exact ⟨cs, h1, h2, fun j p v hp hv => ih (h3 j p v hp hv)⟩

theorem VR.le {g : G} {n m : Nat} {p : PV} {c : Value} (hn : n ≤ m) (h : VR g n p c) : VR g m p c := by
  induction hn with
  | refl => exact h
  | step _ ih => exact VR.succ ih

/-- How a state may go on. -/
structure Step (g g' : G) : Prop where
  h : g'.h = g.h
  os : g'.w.os = g.w.os
  tape : g'.w.tape = g.w.tape
  output : g'.w.output = g.w.output
  size : g.w.heap.size ≤ g'.w.heap.size
  block : ∀ b, b < g.w.heap.size → (∀ i : Nat, g.ρ[i]? ≠ some (some b)) → g'.w.heap[b]? = g.w.heap[b]?
  own : ∀ (i b : Nat), g'.ρ[i]? = some (some b) → g.w.heap.size ≤ b ∨ ∃ j : Nat, g.ρ[j]? = some (some b)
  obj : ∀ (i : Nat) sz es ver, g.σ[i]? = some (.row sz es ver) → ∃ es' ver', g'.σ[i]? = some (.row sz es' ver') ∧ ver ≤ ver' ∧
    (ver = ver' → es.length ≤ es'.length ∧ g'.ρ[i]? = g.ρ[i]? ∧ ∀ b, g.ρ[i]? = some (some b) → blockSize g'.w b = blockSize g.w b)

theorem Step.refl (g : G) : Step g g :=
  ⟨rfl, rfl, rfl, rfl, Nat.le_refl _, fun _ _ _ => rfl, fun i b h => .inr ⟨i, h⟩, fun i sz es ver h => ⟨es, ver, h, Nat.le_refl _, fun _ => ⟨Nat.le_refl _, rfl, fun _ _ => rfl⟩⟩⟩

theorem Step.trans {a b c : G} (h : Step a b) (k : Step b c) : Step a c := by
  refine ⟨k.h.trans h.h, k.os.trans h.os, k.tape.trans h.tape, k.output.trans h.output, Nat.le_trans h.size k.size, fun x hx hn => ?_, fun i x hx => ?_, fun i sz es ver ho => ?_⟩
  · rw [k.block x (Nat.lt_of_lt_of_le hx h.size) fun i hi => ?_, h.block x hx hn]
    rcases h.own i x hi with h' | ⟨j, hj⟩
    · omega
    · exact hn j hj
  · rcases k.own i x hx with h' | ⟨j, hj⟩
    · exact .inl (Nat.le_trans h.size h')
    · exact h.own j x hj
  · obtain ⟨es1, v1, h1, h2, h3⟩ := h.obj i sz es ver ho
    obtain ⟨es2, v2, k1, k2, k3⟩ := k.obj i sz es1 v1 h1
    refine ⟨es2, v2, k1, Nat.le_trans h2 k2, fun e => ?_⟩
    have e1 : ver = v1 := by omega
    have e2 : v1 = v2 := by omega
    obtain ⟨a1, a2, a3⟩ := h3 e1
    obtain ⟨b1, b2, b3⟩ := k3 e2
    exact ⟨Nat.le_trans a1 b1, b2.trans a2, fun b hb => (b3 b (a2 ▸ hb)).trans (a3 b hb)⟩

theorem Step.frz {g g' : G} (h : Step g g') {b : Nat} (hb : g.frz b) : g'.frz b := by
  refine ⟨Nat.lt_of_lt_of_le hb.1 h.size, fun i hi => ?_, by rw [h.h]; exact hb.2.2⟩
  rcases h.own i b hi with h' | ⟨j, hj⟩
  · have := hb.1; omega
  · exact hb.2.1 j hj

theorem Step.cell {g g' : G} (h : Step g g') {a : Addr} (hb : g.frz a.block) : g'.w.cell? a = g.w.cell? a := by
  unfold World.cell?
  rw [h.block a.block hb.1 hb.2.1]

theorem addr_add_block (a : Addr) (n : Nat) : (a.add n).block = a.block := by unfold Addr.add; split <;> rfl

theorem VR.step {g g' : G} (h : Step g g') : ∀ {n : Nat} {p : PV} {c : Value}, VR g n p c → VR g' n p c
  | 0, _, _, k => k.elim
  | n + 1, p, c, k => by
    have ih := @VR.step g g' h n
    cases p with
    | any => trivial
    | val v => exact k
    | agg ps =>
      simp only [VR] at k ⊢
      obtain ⟨cs, h1, h2, h3⟩ := k
      exact ⟨cs, h1, h2, fun j p v hp hv => ih (h3 j p v hp hv)⟩
    | tup ps =>
      simp only [VR] at k ⊢
      obtain ⟨cs, h1, h2, h3⟩ := k
      exact ⟨cs, h1, h2, fun j p v hp hv => ih (h3 j p v hp hv)⟩
    | list sz xs ex =>
      simp only [VR] at k ⊢
      obtain ⟨a, cap, h1, h2, h3, h4, h5, h6⟩ := k
      refine ⟨a, cap, h1, h2, h3, h4, h5, fun h0 => ?_⟩
      obtain ⟨ad, e1, e2, e3, e4⟩ := h6 h0
      exact ⟨ad, e1, e2, h.frz e3, fun j p hp => let ⟨v, q1, q2⟩ := e4 j p hp; ⟨v, (h.cell (a := ad.add j) (by rw [addr_add_block]; exact e3)).trans q1, ih q2⟩⟩
    | tl sz xs =>
      simp only [VR] at k ⊢
      obtain ⟨a, cap, h1, h2, h3, h6⟩ := k
      refine ⟨a, cap, h1, h2, h3, fun h0 => ?_⟩
      obtain ⟨ad, e1, e2, e3, e4⟩ := h6 h0
      exact ⟨ad, e1, e2, h.frz e3, fun j p hp => let ⟨v, q1, q2⟩ := e4 j p hp; ⟨v, (h.cell (a := ad.add j) (by rw [addr_add_block]; exact e3)).trans q1, ih q2⟩⟩
    | fptr cs off =>
      simp only [VR] at k ⊢
      obtain ⟨ad, e1, e2, e3, e4⟩ := k
      exact ⟨ad, e1, e2, h.frz e3, fun j p hp => let ⟨q0, v, q1, q2⟩ := e4 j p hp; ⟨q0, v, (h.cell (a := ad.add j) (by rw [addr_add_block]; exact e3)).trans q1, ih q2⟩⟩
    | own id ver off len =>
      simp only [VR] at k ⊢
      obtain ⟨a, cap, q1, q2, sz, es, v1, h1, h2, h3⟩ := k
      obtain ⟨es', v2, k1, k2, k3⟩ := h.obj id sz es v1 h1
      refine ⟨a, cap, q1, q2, sz, es', v2, k1, Nat.le_trans h2 k2, fun e => ?_⟩
      obtain ⟨q3, q4⟩ := h3 (by omega)
      obtain ⟨r1, r2, r3⟩ := k3 (by omega)
      refine ⟨by omega, ?_⟩
      rw [r2]
      cases hb : g.ρ[id]? with
      | none => simp only [hb] at q4 ⊢; exact q4
      | some o =>
        cases o with
        | none => simp only [hb] at q4 ⊢; exact q4
        | some b =>
          simp only [hb] at q4 ⊢
          obtain ⟨q5, s, q6, q7⟩ := q4
          exact ⟨q5, s, (r3 b hb).trans q6, q7⟩
    | ptr id ver i off =>
      simp only [VR] at k ⊢
      obtain ⟨ad, q0, sz, es, v1, h1, h2, h3⟩ := k
      obtain ⟨es', v2, k1, k2, k3⟩ := h.obj id sz es v1 h1
      refine ⟨ad, q0, sz, es', v2, k1, Nat.le_trans h2 k2, fun e => ?_⟩
      obtain ⟨q1, b, q2, q3⟩ := h3 (by omega)
      obtain ⟨r1, r2, r3⟩ := k3 (by omega)
      exact ⟨by omega, b, r2.trans q2, q3⟩
    | fn f caps =>
      simp only [VR] at k ⊢
      obtain ⟨cs, h1, h2, h3⟩ := k
      exact ⟨cs, h1, h2, fun j p v hp hv => ih (h3 j p v hp hv)⟩

theorem R.step {g g' : G} (h : Step g g') {p : PV} {c : Value} (k : R g p c) : R g' p c := let ⟨n, hn⟩ := k; ⟨n, VR.step h hn⟩

/-! ### How R reads, constructor by constructor -/
/-- Each of a list is as told. -/
def Rs (g : G) (ps : List PV) (cs : List Value) : Prop := cs.length = ps.length ∧ ∀ (j : Nat) p v, ps[j]? = some p → cs[j]? = some v → R g p v

theorem VR_of_Rs {g : G} : ∀ {ps : List PV} {cs : List Value}, Rs g ps cs → ∃ n, ∀ (j : Nat) p v, ps[j]? = some p → cs[j]? = some v → VR g n p v
  | [], _, h => ⟨0, fun j p v hp => by simp at hp⟩
  | p :: ps, [], h => by have := h.1; simp at this
  | p :: ps, c :: cs, h => by
    obtain ⟨n, hn⟩ := VR_of_Rs (ps := ps) (cs := cs) ⟨by simpa using h.1, fun j q v hq hv => h.2 (j + 1) q v (by simpa using hq) (by simpa using hv)⟩
    obtain ⟨m, hm⟩ := h.2 0 p c (by simp) (by simp)
    refine ⟨max n m, fun j q v hq hv => ?_⟩
    cases j with
    | zero => simp at hq hv; subst hq; subst hv; exact VR.le (Nat.le_max_right ..) hm
    | succ j => exact VR.le (Nat.le_max_left ..) (hn j q v (by simpa using hq) (by simpa using hv))

/-- The same along a row of cells. -/
theorem VR_of_cells {g : G} {f : Nat → Option Value} : ∀ {ps : List PV}, (∀ (j : Nat) p, ps[j]? = some p → ∃ v, f j = some v ∧ R g p v) → ∃ n, ∀ (j : Nat) p, ps[j]? = some p → ∃ v, f j = some v ∧ VR g n p v := by
  intro ps
  induction ps generalizing f with
  | nil => intro _; exact ⟨0, fun j p hp => by simp at hp⟩
  | cons p ps ih =>
    intro h
    obtain ⟨n, hn⟩ := ih (f := fun j => f (j + 1)) fun j q hq => h (j + 1) q (by simpa using hq)
    obtain ⟨v, hv, m, hm⟩ := h 0 p (by simp)
    refine ⟨max n m, fun j q hq => ?_⟩
    cases j with
    | zero => simp at hq; subst hq; exact ⟨v, hv, VR.le (Nat.le_max_right ..) hm⟩
    | succ j => obtain ⟨u, hu, hu'⟩ := hn j q (by simpa using hq); exact ⟨u, hu, VR.le (Nat.le_max_left ..) hu'⟩

theorem R_any (g : G) (c : Value) : R g .any c := ⟨1, trivial⟩
theorem R_val {g : G} {v c : Value} : R g (.val v) c ↔ c = v := ⟨fun ⟨n, h⟩ => by cases n with | zero => exact h.elim | succ n => exact h, fun h => ⟨1, h⟩⟩
theorem R_agg {g : G} {ps : List PV} {c : Value} : R g (.agg ps) c ↔ ∃ cs : List Value, c = .agg cs.toArray ∧ Rs g ps cs := by
  constructor
  · rintro ⟨n, h⟩
    cases n with
    | zero => exact h.elim
    | succ n =>
      simp only [VR] at h
      obtain ⟨cs, h1, h2, h3⟩ := h
      exact ⟨cs, h1, h2, fun j p v hp hv => ⟨n, h3 j p v hp hv⟩⟩
  · rintro ⟨cs, h1, h2⟩
    obtain ⟨n, hn⟩ := VR_of_Rs h2
    exact ⟨n + 1, by simp only [VR]; exact ⟨cs, h1, h2.1, hn⟩⟩
theorem R_tup {g : G} {ps : List PV} {c : Value} : R g (.tup ps) c ↔ ∃ cs : List Value, c = .tuple cs.toArray ∧ Rs g ps cs := by
  constructor
  · rintro ⟨n, h⟩
    cases n with
    | zero => exact h.elim
    | succ n =>
      simp only [VR] at h
      obtain ⟨cs, h1, h2, h3⟩ := h
      exact ⟨cs, h1, h2, fun j p v hp hv => ⟨n, h3 j p v hp hv⟩⟩
  · rintro ⟨cs, h1, h2⟩
    obtain ⟨n, hn⟩ := VR_of_Rs h2
    exact ⟨n + 1, by simp only [VR]; exact ⟨cs, h1, h2.1, hn⟩⟩
theorem R_fn {g : G} {f : FuncId} {ps : List PV} {c : Value} : R g (.fn f ps) c ↔ ∃ cs : List Value, c = .func (.func f) #[] cs.toArray ∧ Rs g ps cs := by
  constructor
  · rintro ⟨n, h⟩
    cases n with
    | zero => exact h.elim
    | succ n =>
      simp only [VR] at h
      obtain ⟨cs, h1, h2, h3⟩ := h
      exact ⟨cs, h1, h2, fun j p v hp hv => ⟨n, h3 j p v hp hv⟩⟩
  · rintro ⟨cs, h1, h2⟩
    obtain ⟨n, hn⟩ := VR_of_Rs h2
    exact ⟨n + 1, by simp only [VR]; exact ⟨cs, h1, h2.1, hn⟩⟩
theorem R_list {g : G} {sz : Nat} {xs : List PV} {ex : Bool} {c : Value} : R g (.list sz xs ex) c ↔ ∃ a cap, c = .slice a xs.length cap ∧ (xs.length ≤ cap ∧ (a = none → cap = 0)) ∧ xs.length ≤ 9223372036854775807 ∧ (ex = true → cap = xs.length) ∧ (∀ x ∈ xs, x.bel 0 = true ∧ x.cells.length = sz) ∧
    (0 < xs.length → ∃ ad, a = some ad ∧ ad.spot = none ∧ g.frz ad.block ∧ ∀ (j : Nat) p, (xs.flatMap PV.cells)[j]? = some p → ∃ v, g.w.cell? (ad.add j) = some v ∧ R g p v) := by
  constructor
  · rintro ⟨n, h⟩
    cases n with
    | zero => exact h.elim
    | succ n =>
      simp only [VR] at h
      obtain ⟨a, cap, h1, h2, h3, h4, h5, h6⟩ := h
      refine ⟨a, cap, h1, h2, h3, h4, h5, fun h0 => ?_⟩
      obtain ⟨ad, e1, e2, e3, e4⟩ := h6 h0
      exact ⟨ad, e1, e2, e3, fun j p hp => let ⟨v, q1, q2⟩ := e4 j p hp; ⟨v, q1, n, q2⟩⟩
  · rintro ⟨a, cap, h1, h2, h3, h4, h5, h6⟩
    rcases Nat.eq_zero_or_pos xs.length with h0 | h0
    · exact ⟨1, by simp only [VR]; exact ⟨a, cap, h1, h2, h3, h4, h5, fun h' => by omega⟩⟩
    · obtain ⟨ad, e1, e2, e3, e4⟩ := h6 h0
      obtain ⟨n, hn⟩ := VR_of_cells e4
      exact ⟨n + 1, by simp only [VR]; exact ⟨a, cap, h1, h2, h3, h4, h5, fun _ => ⟨ad, e1, e2, e3, hn⟩⟩⟩
theorem R_fptr {g : G} {cs : List PV} {off : Nat} {c : Value} : R g (.fptr cs off) c ↔ ∃ ad : Addr, c = .pointer (some (ad.add off)) ∧ ad.spot = none ∧ g.frz ad.block ∧ ∀ (j : Nat) p, cs[j]? = some p → p.bel 0 = true ∧ ∃ v, g.w.cell? (ad.add j) = some v ∧ R g p v := by
  constructor
  · rintro ⟨n, h⟩
    cases n with
    | zero => exact h.elim
    | succ n =>
      simp only [VR] at h
      obtain ⟨ad, e1, e2, e3, e4⟩ := h
      exact ⟨ad, e1, e2, e3, fun j p hp => let ⟨q0, v, q1, q2⟩ := e4 j p hp; ⟨q0, v, q1, n, q2⟩⟩
  · rintro ⟨ad, e1, e2, e3, e4⟩
    obtain ⟨n, hn⟩ := VR_of_cells (g := g) (f := fun j => g.w.cell? (ad.add j)) fun j p hp => (e4 j p hp).2
    exact ⟨n + 1, by simp only [VR]; exact ⟨ad, e1, e2, e3, fun j p hp => ⟨(e4 j p hp).1, hn j p hp⟩⟩⟩
theorem R_tl {g : G} {sz : Nat} {xs : List PV} {c : Value} : R g (.tl sz xs) c ↔ ∃ a cap, c = .slice a xs.length cap ∧ (xs.length ≤ cap ∧ a.isSome = true) ∧ (∀ x ∈ xs, x.cells.length = sz) ∧
    (0 < xs.length → ∃ ad, a = some ad ∧ ad.spot = none ∧ g.frz ad.block ∧ ∀ (j : Nat) p, (xs.flatMap PV.cells)[j]? = some p → ∃ v, g.w.cell? (ad.add j) = some v ∧ R g p v) := by
  constructor
  · rintro ⟨n, h⟩
    cases n with
    | zero => exact h.elim
    | succ n =>
      simp only [VR] at h
      obtain ⟨a, cap, h1, h2, h5, h6⟩ := h
      refine ⟨a, cap, h1, h2, h5, fun h0 => ?_⟩
      obtain ⟨ad, e1, e2, e3, e4⟩ := h6 h0
      exact ⟨ad, e1, e2, e3, fun j p hp => let ⟨v, q1, q2⟩ := e4 j p hp; ⟨v, q1, n, q2⟩⟩
  · rintro ⟨a, cap, h1, h2, h5, h6⟩
    rcases Nat.eq_zero_or_pos xs.length with h0 | h0
    · exact ⟨1, by simp only [VR]; exact ⟨a, cap, h1, h2, h5, fun h' => by omega⟩⟩
    · obtain ⟨ad, e1, e2, e3, e4⟩ := h6 h0
      obtain ⟨n, hn⟩ := VR_of_cells e4
      exact ⟨n + 1, by simp only [VR]; exact ⟨a, cap, h1, h2, h5, fun _ => ⟨ad, e1, e2, e3, hn⟩⟩⟩
theorem R_own {g : G} {id ver off len : Nat} {c : Value} : R g (.own id ver off len) c ↔ ∃ a cap, c = .slice a len cap ∧ len ≤ cap ∧ ∃ sz es ver', g.σ[id]? = some (.row sz es ver') ∧ ver ≤ ver' ∧ (ver = ver' → off + len ≤ es.length ∧
        match g.ρ[id]? with
        | some (some b) => (0 < cap → a = some ⟨b, off * sz, none⟩) ∧ ∃ s, blockSize g.w b = some s ∧ (off + cap) * sz ≤ s
        | _ => cap = 0) :=
  ⟨fun ⟨n, h⟩ => by cases n with | zero => exact h.elim | succ n => simpa only [VR] using h, fun h => ⟨1, by simp only [VR]; exact h⟩⟩
theorem own_none {o : Option (Option Nat)} {a : Option Addr} {cap off sz : Nat} {w : World} (h : match o with
    | some (some b) => (0 < cap → a = some ⟨b, off * sz, none⟩) ∧ ∃ s, blockSize w b = some s ∧ (off + cap) * sz ≤ s
    | _ => cap = 0) (hn : a = none) : cap = 0 := by
  split at h
  · rcases Nat.eq_zero_or_pos cap with hc | hc
    · exact hc
    · have := h.1 hc; rw [hn] at this; cases this
  · exact h
theorem R_ptr {g : G} {id ver i off : Nat} {c : Value} : R g (.ptr id ver i off) c ↔ ∃ ad, c = .pointer (some ad) ∧ ∃ sz es ver', g.σ[id]? = some (.row sz es ver') ∧ ver ≤ ver' ∧ (ver = ver' → i < es.length ∧ ∃ b, g.ρ[id]? = some (some b) ∧ ad = ⟨b, i * sz + off, none⟩) :=
  ⟨fun ⟨n, h⟩ => by cases n with | zero => exact h.elim | succ n => simpa only [VR] using h, fun h => ⟨1, by simp only [VR]; exact h⟩⟩

/-- Each object's cells lie in its block. -/
structure St (g : G) : Prop where
  hid : (∀ b ∈ g.h, b < g.w.heap.size) ∧ ∀ (i b : Nat), g.ρ[i]? = some (some b) → b ∉ g.h
  len : g.ρ.length = g.σ.length
  inj : ∀ (i j b : Nat), g.ρ[i]? = some (some b) → g.ρ[j]? = some (some b) → i = j
  obj : ∀ (i : Nat) sz es ver, g.σ[i]? = some (.row sz es ver) →
    (∃ b cs e fr, g.ρ[i]? = some (some b) ∧ g.w.heap[b]? = some (.cells cs e fr) ∧ (∀ j, j < cs.size → ¬ (fr.1 ≤ j ∧ j < fr.2)) ∧ (∀ x ∈ es, x.cells.length = sz) ∧ es.length * sz ≤ cs.size ∧
      ∀ (j : Nat) p, (es.flatMap PV.cells)[j]? = some p → ∃ v, cs[j]? = some v ∧ R g p v) ∨
    (g.ρ[i]? = some none ∧ es = [])

theorem St.hidS {g g' : G} (hs : St g) (h : Step g g') : (∀ b ∈ g'.h, b < g'.w.heap.size) ∧ ∀ (i b : Nat), g'.ρ[i]? = some (some b) → b ∉ g'.h := by
  refine ⟨fun b hb => Nat.lt_of_lt_of_le (hs.hid.1 b (h.h ▸ hb)) h.size, fun i b hb hh => ?_⟩
  rw [h.h] at hh
  rcases h.own i b hb with h' | ⟨j, hj⟩
  · have := hs.hid.1 b hh; omega
  · exact hs.hid.2 j b hj hh

theorem St.empty {w : World} {h : List Nat} (k : ∀ b ∈ h, b < w.heap.size) : St ⟨[], [], w, h⟩ := ⟨⟨k, fun i b hi => by simp at hi⟩, rfl, fun i j b h => by simp at h, fun i sz es ver h => by simp at h⟩

end Aw
end Go.Proofs.Ytegjfjckijmgcaa
