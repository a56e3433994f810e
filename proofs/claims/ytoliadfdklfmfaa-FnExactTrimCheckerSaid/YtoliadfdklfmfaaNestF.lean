/- Lists of flat data that grow behind a state. -/
import Derived.Test.YtoliadfdklfmfaaNest
import Derived.Test.YtoliadfdklfmfaaLoops2
set_option linter.unusedVariables false
set_option linter.unusedSimpArgs false
set_option maxRecDepth 100000
namespace Go.Proofs.Ytoliadfdklfmfaa
open Aw
/-- What stands behind other objects may turn. -/
theorem Ext.set {σ σ' : List AObj} (h : Ext σ σ') {id : Nat} (hid : σ.length ≤ id) (r : AObj) : Ext σ (σ'.set id r) := by
  obtain ⟨m, rfl⟩ := h
  exact ⟨m.set (id - σ.length) r, by rw [List.set_append_right _ _ hid]⟩
theorem Ext.trans {a b c : List AObj} (h : Ext a b) (k : Ext b c) : Ext a c := by
  obtain ⟨m, rfl⟩ := h; obtain ⟨n, rfl⟩ := k; exact ⟨m ++ n, by simp⟩
/-- A new list under way, of flat elements, behind a state. -/
structure FlI {α : Type} [Enc α] [Own α] (σ0 : List AObj) (id : Nat) (f : Nat → α) (k : Nat) (s : List AObj × Nat) : Prop where
  l : Lst s.1 id s.2 (((List.range k).map f).map Enc.pv) [id] ((List.range k).map f)
  ge : σ0.length ≤ id
  e : Ext σ0 s.1
  g : Gud s.1
  n : Nl [] s.1
  v : s.2 ≤ k
theorem FlI.start {α : Type} [Enc α] [Own α] {σ : List AObj} (f : Nat → α) (g : Gud σ) (n : Nl [] σ) : FlI σ σ.length f 0 (σ ++ [.row (Enc.sz α) [] 0], 0) :=
  ⟨by simpa using Lst.new (α := α) σ 0, Nat.le_refl _, Ext.snoc _ _, Gud.snoc g (by simp [PV.bels]), n.app (by simp [AObj.nl, PV.nls]), Nat.le_refl 0⟩
theorem FlI.push {α : Type} [Enc α] [Own α] [Flat α] {σ0 : List AObj} {id : Nat} {f : Nat → α} {k : Nat} {s : List AObj × Nat} (h : FlI σ0 id f k s) (hn : (Enc.pv (f k)).nl = true) :
    FlI σ0 id f (k + 1) (s.1.set id (.row (Enc.sz α) (((List.range k).map f).map Enc.pv ++ [Enc.pv (f k)]) (s.2 + 1)), s.2 + 1) := by
  have hp := h.l.push (own_flatE s.1 (f k)) (by simp)
  have e : (List.range (k + 1)).map f = (List.range k).map f ++ [f k] := by rw [List.range_succ]; simp
  refine ⟨?_, h.ge, h.e.set h.ge _, ?_, ?_, Nat.succ_le_succ h.v⟩
  · rw [e]; simpa using hp
  · refine Gud.set h.g id _ _ ?_
    rw [bels_append, Bool.and_eq_true]
    exact ⟨Gud.at h.g h.l.at, by simp only [PV.bels, Bool.and_true]; exact (own_flatE s.1 (f k)).bel⟩
  · refine h.n.set id (row_nl (nls_append (h.n.at (by simp) h.l.at) ?_))
    simp only [PV.nls, Bool.and_true]; exact hn
theorem nl_int (n : Int) : (Enc.pv n).nl = true := by simp [PV.nl]

theorem map_succ {α : Type} (f : Nat → α) (k : Nat) : (List.range (k + 1)).map f = (List.range k).map f ++ [f k] := by rw [List.range_succ]; simp
theorem get_set_ne {σ : List AObj} {i j : Nat} {r r' : AObj} (h : i ≠ j) (k : σ[j]? = some r') : (σ.set i r)[j]? = some r' := by rw [List.getElem?_set_ne h]; exact k
end Go.Proofs.Ytoliadfdklfmfaa
