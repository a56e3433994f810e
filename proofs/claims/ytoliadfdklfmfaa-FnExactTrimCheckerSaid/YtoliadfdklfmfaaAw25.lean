/- From an exact contract to a call in a world that stays as it was below. -/
import Derived.Test.YtoliadfdklfmfaaAw24
set_option linter.unusedVariables false
set_option linter.unusedSimpArgs false
namespace Go.Proofs.Ytoliadfdklfmfaa
namespace Aw
open Go.RowKit

theorem Step.below {g g' : G} (h : Step g g') (hr : ∀ i : Nat, g.ρ[i]? = none) : Below g.w.heap.size g.w g'.w :=
  ⟨h.os, h.tape, h.output, h.size, fun b hb => h.block b hb fun i hi => by rw [hr] at hi; cases hi⟩

theorem calls_of_gets {P : Program} {f : FuncId} {args : List PV} {vs : List Value} {v : Value} {σ' : List AObj} {w : World} (h : Gets P f args [] (.val v, σ')) (hr : Rs ⟨[], [], w, []⟩ args vs) :
    Calls P f vs.toArray w fun e w' => e = .returned v ∧ Below w.heap.size w w' := by
  refine (h ⟨[], [], w, []⟩ vs rfl (St.empty (by simp)) hr).mono ?_
  rintro e w' ⟨u, p, τ, ρ', rfl, h1, h2, h3, rfl, h5⟩
  rw [R_val] at h3; subst h3
  exact ⟨rfl, h2.below fun i => by simp⟩

/-- The law came out true. -/
def isT (r : Option (PV × List AObj)) : Bool := match r with
  | some (.val (.bool true), []) => true
  | _ => false
theorem isT_eq {r : Option (PV × List AObj)} (h : isT r = true) : r = some (.val (.bool true), []) := by
  unfold isT at h
  split at h
  · rfl
  · cases h
theorem calls_of_isT {P : Program} {fns : Fns} {n : Nat} {f : FuncId} (hm : P.follows .mixedOrders = true) (hf : FnsOk P fns) (h : isT (evF fns rtB n f [] []) = true) (w : World) :
    Calls P f #[] w fun e w' => e = .returned (.bool true) ∧ Below w.heap.size w w' :=
  calls_of_gets (vs := []) (evN_sound hm hf rtB_ok n f [] [] _ (by rw [← evF_eq]; exact isT_eq h)) (Rs.nil _)

/-- A table of functions, each with its check. -/
structure FnE (P : Program) where
  f : Nat
  a : FnA
  ok : FnOk P f a
def fnsOf {P : Program} : List (FnE P) → Fns
  | [], _ => none
  | e :: l, f => if e.f = f then some e.a else fnsOf l f
theorem fnsOf_ok {P : Program} : ∀ l : List (FnE P), FnsOk P (fnsOf l)
  | [], f, a, h => by simp [fnsOf] at h
  | e :: l, f, a, h => by
    simp only [fnsOf] at h
    split at h
    · rename_i hf; subst hf; injection h with h; subst h; exact e.ok
    · exact fnsOf_ok l f a h

end Aw
end Go.Proofs.Ytoliadfdklfmfaa
