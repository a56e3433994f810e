/- Lists of owned data that grow by append, over states that are not written out. -/
import Derived.Test.YtoliadfdklfmfaaLwC
set_option linter.unusedVariables false
set_option linter.unusedSimpArgs false
set_option maxRecDepth 100000
namespace Go.Proofs.Ytoliadfdklfmfaa
open Aw

/-- A list under way: its row, what it holds, and all that is in it. -/
def Lst {α : Type} [Enc α] [Own α] (σ : List AObj) (id v : Nat) (es : List PV) (ids : List Nat) (xs : List α) : Prop :=
  σ[id]? = some (.row (Enc.sz α) es v) ∧ es.length = xs.length ∧ (∃ is, ids = id :: is.flatten ∧ OwnEs σ is es xs) ∧ ids.Nodup ∧ ∀ i ∈ ids, i < σ.length
section
variable {α : Type} [Enc α] [Own α] {σ σ' : List AObj} {id v : Nat} {es : List PV} {ids : List Nat} {xs : List α}
theorem Lst.at (h : Lst σ id v es ids xs) : σ[id]? = some (.row (Enc.sz α) es v) := h.1
theorem Lst.len (h : Lst σ id v es ids xs) : es.length = xs.length := h.2.1
theorem Lst.mem (h : Lst σ id v es ids xs) : id ∈ ids := by obtain ⟨_, _, ⟨is, rfl, _⟩, _⟩ := h; simp
theorem Lst.lt (h : Lst σ id v es ids xs) : ∀ i ∈ ids, i < σ.length := h.2.2.2.2
theorem Lst.own (h : Lst σ id v es ids xs) (hl : xs.length ≤ 140737488355328) : OwnIn σ ids (.own id v 0 xs.length) xs := by
  obtain ⟨h1, h2, ⟨is, rfl, h3⟩, h4, h5⟩ := h
  exact ⟨.inr ⟨id, v, es, is, rfl, h1, hl, rfl, h3⟩, h4, h5⟩
theorem Lst.frame (h : Lst σ id v es ids xs) (hk : ∀ i ∈ ids, σ'[i]? = σ[i]?) (hl : σ.length ≤ σ'.length) : Lst σ' id v es ids xs := by
  obtain ⟨h1, h2, ⟨is, rfl, h3⟩, h4, h5⟩ := h
  exact ⟨by rw [hk id (by simp)]; exact h1, h2, ⟨is, rfl, h3.frame fun i hi => hk i (List.mem_cons_of_mem _ hi)⟩, h4, fun i hi => Nat.lt_of_lt_of_le (h5 i hi) hl⟩
theorem Lst.ext (h : Lst σ id v es ids xs) (e : Ext σ σ') : Lst σ' id v es ids xs := by
  have := h.lt
  obtain ⟨m, rfl⟩ := e
  exact h.frame (fun i hi => List.getElem?_append_left (this i hi)) (by simp)
theorem Lst.keep (h : Lst σ id v es ids xs) {js : List Nat} (k : Keep js σ σ') (hd : ∀ i ∈ ids, i ∉ js) : Lst σ' id v es ids xs := h.frame (fun i hi => k.2 i (hd i hi)) (by rw [k.1]; exact Nat.le_refl _)
theorem Keep.set (σ : List AObj) (id : Nat) (r : AObj) : Keep [id] σ (σ.set id r) := ⟨by simp, fun j hj => List.getElem?_set_ne fun e => hj (by simp [e])⟩
theorem Lst.push (h : Lst σ id v es ids xs) {js : List Nat} {p : PV} {x : α} (o : OwnIn σ js p x) (hd : ∀ i ∈ ids, i ∉ js) : Lst (σ.set id (.row (Enc.sz α) (es ++ [p]) (v + 1))) id (v + 1) (es ++ [p]) (ids ++ js) (xs ++ [x]) := by
  obtain ⟨h1, h2, ⟨is, rfl, h3⟩, h4, h5⟩ := h
  have hlt : id < σ.length := h5 id (by simp)
  have hn := List.nodup_cons.1 h4
  have hk := Keep.set σ id (.row (Enc.sz α) (es ++ [p]) (v + 1))
  refine ⟨List.getElem?_set_self hlt, by simp [h2], ⟨is ++ [js], by simp, ?_⟩, ?_, ?_⟩
  · refine OwnEs.snoc (h3.frame fun i hi => hk.2 i fun hj => ?_) (Own.frame o.own fun i hi => hk.2 i fun hj => ?_)
    · simp at hj; subst hj; exact hn.1 hi
    · simp at hj; subst hj; exact hd i (by simp) hi
  · exact List.nodup_append.2 ⟨h4, o.nd, fun a ha b hb e => hd a ha (e ▸ hb)⟩
  · intro i hi
    rw [hk.1]
    rcases List.mem_append.1 hi with hi | hi
    · exact h5 i hi
    · exact o.lt i hi
end
theorem Lst.new {α : Type} [Enc α] [Own α] (σ : List AObj) (v : Nat) : Lst (α := α) (σ ++ [.row (Enc.sz α) [] v]) σ.length v [] [σ.length] [] :=
  ⟨by simp, rfl, ⟨[], rfl, trivial⟩, by simp, by simp⟩
theorem own_flatE {α : Type} [Enc α] [Own α] [Flat α] (σ : List AObj) (x : α) : OwnIn σ [] (Enc.pv x) x := ⟨Flat.iff.2 ⟨rfl, rfl⟩, by simp, by simp⟩
theorem Gud.set {σ : List AObj} (h : Gud σ) (id sz : Nat) {es : List PV} (v : Nat) (hb : PV.bels σ.length es = true) : Gud (σ.set id (.row sz es v)) := by
  unfold Gud; rw [List.length_set]; exact objsBel_set h _ _ _ hb
theorem Gud.at {σ : List AObj} (h : Gud σ) {id sz v : Nat} {es : List PV} (hi : σ[id]? = some (.row sz es v)) : PV.bels σ.length es = true := objsBel_get h hi
/-- All but some objects hold no other memory. -/
def Nl (js : List Nat) (σ : List AObj) : Prop := ∀ j o, j ∉ js → σ[j]? = some o → o.nl = true
theorem Nl.good {σ : List AObj} (h : Nl [] σ) (g : Gud σ) : GoodN σ := by
  refine ⟨g, List.all_eq_true.2 fun o ho => ?_⟩
  obtain ⟨j, hj⟩ := List.mem_iff_getElem?.1 ho
  exact h j o (by simp) hj
theorem GoodN.nlX {σ : List AObj} (h : GoodN σ) : Nl [] σ := fun j o _ hj => List.all_eq_true.1 h.2 o (List.mem_of_getElem? hj)
theorem Nl.app {js : List Nat} {σ τ : List AObj} (h : Nl js σ) (k : τ.all AObj.nl = true) : Nl js (σ ++ τ) := by
  intro j o hj ho
  rw [List.getElem?_append] at ho
  split at ho
  · exact h j o hj ho
  · exact List.all_eq_true.1 k o (List.mem_of_getElem? ho)
theorem Nl.set {js : List Nat} {σ : List AObj} (h : Nl js σ) (id : Nat) {r : AObj} (hr : r.nl = true) : Nl js (σ.set id r) := by
  intro j o hj ho
  rw [List.getElem?_set] at ho
  split at ho
  · split at ho
    · injection ho with ho; rw [← ho]; exact hr
    · cases ho
  · exact h j o hj ho
theorem Nl.fix {σ : List AObj} {id : Nat} {js : List Nat} (h : Nl (id :: js) σ) {r : AObj} (hr : r.nl = true) : Nl js (σ.set id r) := by
  intro j o hj ho
  rw [List.getElem?_set] at ho
  split at ho
  · split at ho
    · injection ho with ho; rw [← ho]; exact hr
    · cases ho
  · rename_i hne
    exact h j o (by simp only [List.mem_cons, not_or]; exact ⟨fun e => hne e.symm, hj⟩) ho
theorem Nl.at {js : List Nat} {σ : List AObj} (h : Nl js σ) {id sz v : Nat} {es : List PV} (hj : id ∉ js) (hi : σ[id]? = some (.row sz es v)) : PV.nls es = true := h id _ hj hi
theorem nls_append {a b : List PV} (h : PV.nls a = true) (k : PV.nls b = true) : PV.nls (a ++ b) = true := by
  rw [PV.nls_iff] at *
  intro p hp
  rcases List.mem_append.1 hp with hp | hp
  · exact h p hp
  · exact k p hp
theorem row_nl {sz v : Nat} {es : List PV} (h : PV.nls es = true) : (AObj.row sz es v).nl = true := h
/-- What a call makes, behind a state. -/
theorem made_in {α : Type} [Enc α] [Own α] {p : PV} {τ : List AObj} {ids : List Nat} {x : α} (o : OwnIn τ ids p x) (g : GoodN τ) {js : List Nat} {σ : List AObj} (hg : Gud σ) (hn : Nl js σ) :
    ∃ p' σ' ids', behind σ (p, τ) = (p', σ') ∧ OwnIn σ' ids' p' x ∧ (∀ i ∈ ids', σ.length ≤ i) ∧ Gud σ' ∧ Ext σ σ' ∧ Nl js σ' := by
  refine ⟨p.sh σ.length, σ ++ τ.map (AObj.sh σ.length), ids.map (· + σ.length), rfl, o.shift σ, fun i hi => ?_, hg.app g.1, ⟨_, rfl⟩, hn.app (all_nl_sh _ g.2)⟩
  obtain ⟨j, _, rfl⟩ := List.mem_map.1 hi; omega
end Go.Proofs.Ytoliadfdklfmfaa
