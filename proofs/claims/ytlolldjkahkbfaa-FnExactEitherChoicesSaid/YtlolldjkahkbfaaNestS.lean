/- Lists of owned data whose elements are put in place one by one. -/
import Derived.Test.YtlolldjkahkbfaaLwC
import Derived.Test.YtlolldjkahkbfaaLoops
set_option linter.unusedVariables false
set_option linter.unusedSimpArgs false
set_option maxRecDepth 100000
namespace Go.Proofs.Ytlolldjkahkbfaa
open Aw

/-- A list under way: its row, what it holds, and all that is in it. -/
def Lst {α : Type} [Enc α] [Own α] (σ : List AObj) (id v : Nat) (es : List PV) (ids : List Nat) (xs : List α) : Prop :=
  σ[id]? = some (.row (Enc.sz α) es v) ∧ es.length = xs.length ∧ (∃ is, ids = id :: is.flatten ∧ OwnEs σ is es xs) ∧ ids.Nodup ∧ ∀ i ∈ ids, i < σ.length
section
variable {α : Type} [Enc α] [Own α] {σ σ' : List AObj} {id v : Nat} {es : List PV} {ids : List Nat} {xs : List α}
theorem Lst.at (h : Lst σ id v es ids xs) : σ[id]? = some (.row (Enc.sz α) es v) := h.1
theorem Lst.len (h : Lst σ id v es ids xs) : es.length = xs.length := h.2.1
theorem Lst.mem (h : Lst σ id v es ids xs) : id ∈ ids := by obtain ⟨_, _, ⟨is, rfl, _⟩, _⟩ := h; simp
theorem Lst.lt (h : Lst σ id v es ids xs) : ∀ i ∈ ids, i < σ.length := h.2.2.2.2
theorem Lst.own (h : Lst σ id v es ids xs) (hl : xs.length ≤ 140737488355328) : OwnIn σ ids (.own id v 0 xs.length) xs := by
  obtain ⟨h1, h2, ⟨is, rfl, h3⟩, h4, h5⟩ := h
  exact ⟨.inr ⟨id, v, es, is, rfl, h1, hl, rfl, h3⟩, h4, h5⟩
theorem Lst.frame (h : Lst σ id v es ids xs) (hk : ∀ i ∈ ids, σ'[i]? = σ[i]?) (hl : σ.length ≤ σ'.length) : Lst σ' id v es ids xs := by
  obtain ⟨h1, h2, ⟨is, rfl, h3⟩, h4, h5⟩ := h
  exact ⟨by rw [hk id (by simp)]; exact h1, h2, ⟨is, rfl, h3.frame fun i hi => hk i (List.mem_cons_of_mem _ hi)⟩, h4, fun i hi => Nat.lt_of_lt_of_le (h5 i hi) hl⟩
theorem Lst.ext (h : Lst σ id v es ids xs) (e : Ext σ σ') : Lst σ' id v es ids xs := by
  have := h.lt
  obtain ⟨m, rfl⟩ := e
  exact h.frame (fun i hi => List.getElem?_append_left (this i hi)) (by simp)
theorem Lst.keep (h : Lst σ id v es ids xs) {js : List Nat} (k : Keep js σ σ') (hd : ∀ i ∈ ids, i ∉ js) : Lst σ' id v es ids xs := h.frame (fun i hi => k.2 i (hd i hi)) (by rw [k.1]; exact Nat.le_refl _)
theorem Keep.set (σ : List AObj) (id : Nat) (r : AObj) : Keep [id] σ (σ.set id r) := ⟨by simp, fun j hj => List.getElem?_set_ne fun e => hj (by simp [e])⟩
theorem Lst.push (h : Lst σ id v es ids xs) {js : List Nat} {p : PV} {x : α} (o : OwnIn σ js p x) (hd : ∀ i ∈ ids, i ∉ js) : Lst (σ.set id (.row (Enc.sz α) (es ++ [p]) (v + 1))) id (v + 1) (es ++ [p]) (ids ++ js) (xs ++ [x]) := by
  obtain ⟨h1, h2, ⟨is, rfl, h3⟩, h4, h5⟩ := h
  have hlt : id < σ.length := h5 id (by simp)
  have hn := List.nodup_cons.1 h4
  have hk := Keep.set σ id (.row (Enc.sz α) (es ++ [p]) (v + 1))
  refine ⟨List.getElem?_set_self hlt, by simp [h2], ⟨is ++ [js], by simp, ?_⟩, ?_, ?_⟩
  · refine OwnEs.snoc (h3.frame fun i hi => hk.2 i fun hj => ?_) (Own.frame o.own fun i hi => hk.2 i fun hj => ?_)
    · simp at hj; subst hj; exact hn.1 hi
    · simp at hj; subst hj; exact hd i (by simp) hi
  · exact List.nodup_append.2 ⟨h4, o.nd, fun a ha b hb e => hd a ha (e ▸ hb)⟩
  · intro i hi
    rw [hk.1]
    rcases List.mem_append.1 hi with hi | hi
    · exact h5 i hi
    · exact o.lt i hi
end
theorem Lst.new {α : Type} [Enc α] [Own α] (σ : List AObj) (v : Nat) : Lst (α := α) (σ ++ [.row (Enc.sz α) [] v]) σ.length v [] [σ.length] [] :=
  ⟨by simp, rfl, ⟨[], rfl, trivial⟩, by simp, by simp⟩
theorem own_flatE {α : Type} [Enc α] [Own α] [Flat α] (σ : List AObj) (x : α) : OwnIn σ [] (Enc.pv x) x := ⟨Flat.iff.2 ⟨rfl, rfl⟩, by simp, by simp⟩
theorem Good.set {σ : List AObj} (h : Good σ) (id sz : Nat) {es : List PV} (v : Nat) (hb : PV.bels σ.length es = true) : Good (σ.set id (.row sz es v)) := by
  unfold Good; rw [List.length_set]; exact objsBel_set h _ _ _ hb
theorem Good.at {σ : List AObj} (h : Good σ) {id sz v : Nat} {es : List PV} (hi : σ[id]? = some (.row sz es v)) : PV.bels σ.length es = true := objsBel_get h hi
/-- All but some objects hold no other memory. -/
def Nl (js : List Nat) (σ : List AObj) : Prop := ∀ j o, j ∉ js → σ[j]? = some o → o.nl = true
theorem Nl.good {σ : List AObj} (h : Nl [] σ) (g : Good σ) : GoodN σ := by
  refine ⟨g, List.all_eq_true.2 fun o ho => ?_⟩
  obtain ⟨j, hj⟩ := List.mem_iff_getElem?.1 ho
  exact h j o (by simp) hj
theorem GoodN.nlX {σ : List AObj} (h : GoodN σ) : Nl [] σ := fun j o _ hj => List.all_eq_true.1 h.2 o (List.mem_of_getElem? hj)
theorem Nl.app {js : List Nat} {σ τ : List AObj} (h : Nl js σ) (k : τ.all AObj.nl = true) : Nl js (σ ++ τ) := by
  intro j o hj ho
  rw [List.getElem?_append] at ho
  split at ho
  · exact h j o hj ho
  · exact List.all_eq_true.1 k o (List.mem_of_getElem? ho)
theorem Nl.set {js : List Nat} {σ : List AObj} (h : Nl js σ) (id : Nat) {r : AObj} (hr : r.nl = true) : Nl js (σ.set id r) := by
  intro j o hj ho
  rw [List.getElem?_set] at ho
  split at ho
  · split at ho
    · injection ho with ho; rw [← ho]; exact hr
    · cases ho
  · exact h j o hj ho
theorem Nl.fix {σ : List AObj} {id : Nat} {js : List Nat} (h : Nl (id :: js) σ) {r : AObj} (hr : r.nl = true) : Nl js (σ.set id r) := by
  intro j o hj ho
  rw [List.getElem?_set] at ho
  split at ho
  · split at ho
    · injection ho with ho; rw [← ho]; exact hr
    · cases ho
  · rename_i hne
    exact h j o (by simp only [List.mem_cons, not_or]; exact ⟨fun e => hne e.symm, hj⟩) ho
theorem Nl.at {js : List Nat} {σ : List AObj} (h : Nl js σ) {id sz v : Nat} {es : List PV} (hj : id ∉ js) (hi : σ[id]? = some (.row sz es v)) : PV.nls es = true := h id _ hj hi
theorem nls_append {a b : List PV} (h : PV.nls a = true) (k : PV.nls b = true) : PV.nls (a ++ b) = true := by
  rw [PV.nls_iff] at *
  intro p hp
  rcases List.mem_append.1 hp with hp | hp
  · exact h p hp
  · exact k p hp
theorem row_nl {sz v : Nat} {es : List PV} (h : PV.nls es = true) : (AObj.row sz es v).nl = true := h
/-- What a call makes, behind a state. -/
theorem made_in {α : Type} [Enc α] [Own α] {p : PV} {τ : List AObj} {ids : List Nat} {x : α} (o : OwnIn τ ids p x) (g : GoodN τ) {js : List Nat} {σ : List AObj} (hg : Good σ) (hn : Nl js σ) :
    ∃ p' σ' ids', behind σ (p, τ) = (p', σ') ∧ OwnIn σ' ids' p' x ∧ (∀ i ∈ ids', σ.length ≤ i) ∧ Good σ' ∧ Ext σ σ' ∧ Nl js σ' := by
  refine ⟨p.sh σ.length, σ ++ τ.map (AObj.sh σ.length), ids.map (· + σ.length), rfl, o.shift σ, fun i hi => ?_, hg.app g.1, ⟨_, rfl⟩, hn.app (all_nl_sh _ g.2)⟩
  obtain ⟨j, _, rfl⟩ := List.mem_map.1 hi; omega
end Go.Proofs.Ytlolldjkahkbfaa

set_option linter.unusedVariables false
set_option linter.unusedSimpArgs false
namespace Go.Proofs.Ytlolldjkahkbfaa

/-- Numbers below n: all of them, or the end. -/
theorem loop_below {β : Type} {F : Nat → β} {n : Nat} {p : Nat → Bool} {e r : β} (hs : ∀ k, k < n → (p k = true → F k = F (k + 1)) ∧ (p k = false → F k = r)) (he : F n = e) :
    F 0 = if (List.range n).all p = true then e else r := by
  obtain ⟨h1, h2⟩ := loop_all (F := F) (p := fun k => p k = true) (n := n) (e := e) (r := r) (fun k h => by
    obtain ⟨q1, q2⟩ := hs k h
    exact ⟨q1, fun hp => q2 (by simpa using hp)⟩) he 0 (Nat.zero_le _)
  split
  · rename_i ha
    rw [List.all_eq_true] at ha
    exact h1 fun i _ hi => ha i (List.mem_range.2 hi)
  · rename_i ha
    refine h2 ?_
    apply Classical.byContradiction
    intro hn
    refine ha (List.all_eq_true.2 fun i hi => ?_)
    apply Classical.byContradiction
    intro h3
    exact hn ⟨i, Nat.zero_le _, List.mem_range.1 hi, h3⟩

/-- A state of which only something is known. -/
theorem loop_known {β S : Type} {F : Nat → S → β} {n : Nat} (I : Nat → S → Prop) (hs : ∀ k s, k < n → I k s → ∃ s', F k s = F (k + 1) s' ∧ I (k + 1) s') {s : S} (h0 : I 0 s) :
    ∃ s', F 0 s = F n s' ∧ I n s' := by
  have key : ∀ k, k ≤ n → ∃ s', F 0 s = F k s' ∧ I k s' := by
    intro k
    induction k with
    | zero => intro _; exact ⟨s, rfl, h0⟩
    | succ k ih =>
      intro h
      obtain ⟨s1, e1, i1⟩ := ih (by omega)
      obtain ⟨s2, e2, i2⟩ := hs k s1 (by omega) i1
      exact ⟨s2, e1.trans e2, i2⟩
  exact key n (Nat.le_refl _)

/-- Numbers below n, taken into a state. -/
theorem loop_nfold {β S : Type} {F : Nat → S → β} {n : Nat} {f : S → Nat → S} (I : Nat → S → Prop) (hs : ∀ k s, k < n → I k s → F k s = F (k + 1) (f s k) ∧ I (k + 1) (f s k)) {s : S} (h0 : I 0 s) :
    F 0 s = F n ((List.range n).foldl f s) ∧ I n ((List.range n).foldl f s) := by
  have key : ∀ k, k ≤ n → F 0 s = F k ((List.range k).foldl f s) ∧ I k ((List.range k).foldl f s) := by
    intro k
    induction k with
    | zero => intro _; exact ⟨rfl, h0⟩
    | succ k ih =>
      intro h
      obtain ⟨e1, i1⟩ := ih (by omega)
      obtain ⟨e2, i2⟩ := hs k _ (by omega) i1
      rw [List.range_succ, List.foldl_append]
      exact ⟨e1.trans e2, i2⟩
  exact key n (Nat.le_refl _)

/-- A list, taken into a state, until it fails. -/
def tryFold {α S R : Type} (f : S → α → S ⊕ R) : S → List α → S ⊕ R
  | s, [] => .inl s
  | s, x :: xs => match f s x with
    | .inl s' => tryFold f s' xs
    | .inr r => .inr r
theorem loop_try {α β S R : Type} {F : Nat → S → β} {ls : List α} {f : S → α → S ⊕ R} {out : R → β} (I : Nat → S → Prop)
    (hs : ∀ k s (h : k < ls.length), I k s → (∀ s', f s ls[k] = .inl s' → F k s = F (k + 1) s' ∧ I (k + 1) s') ∧ (∀ r, f s ls[k] = .inr r → F k s = out r)) {s : S} (h0 : I 0 s) :
    (∀ s', tryFold f s ls = .inl s' → F 0 s = F ls.length s' ∧ I ls.length s') ∧ (∀ r, tryFold f s ls = .inr r → F 0 s = out r) := by
  have key : ∀ (suf pre : List α) (s : S), ls = pre ++ suf → I pre.length s → (∀ s', tryFold f s suf = .inl s' → F pre.length s = F ls.length s' ∧ I ls.length s') ∧ (∀ r, tryFold f s suf = .inr r → F pre.length s = out r) := by
    intro suf
    induction suf with
    | nil => intro pre s h hi; simp at h; subst h; exact ⟨fun s' h => by simp [tryFold] at h; subst h; exact ⟨rfl, hi⟩, fun r h => by simp [tryFold] at h⟩
    | cons x suf ih =>
      intro pre s h hi
      have m := Aw.mid h
      obtain ⟨k1, k2⟩ := hs pre.length s m.1 hi
      rw [m.2.2] at k1 k2
      unfold tryFold
      cases hf : f s x with
      | inl s1 =>
        obtain ⟨e1, i1⟩ := k1 s1 hf
        have := ih (pre ++ [x]) s1 (by simp [h]) (by simpa using i1)
        simp only [List.length_append, List.length_cons, List.length_nil, Nat.zero_add] at this
        rw [e1]
        exact this
      | inr r =>
        refine ⟨fun s' h => (nomatch h), fun r' h => ?_⟩
        injection h with h; subst h
        exact k2 r hf
  exact key ls [] s rfl h0
end Go.Proofs.Ytlolldjkahkbfaa

set_option linter.unusedVariables false
set_option linter.unusedSimpArgs false
set_option maxRecDepth 100000
namespace Go.Proofs.Ytlolldjkahkbfaa
open Aw
/-- What stands behind other objects may turn. -/
theorem Ext.set {σ σ' : List AObj} (h : Ext σ σ') {id : Nat} (hid : σ.length ≤ id) (r : AObj) : Ext σ (σ'.set id r) := by
  obtain ⟨m, rfl⟩ := h
  exact ⟨m.set (id - σ.length) r, by rw [List.set_append_right _ _ hid]⟩
theorem Ext.trans {a b c : List AObj} (h : Ext a b) (k : Ext b c) : Ext a c := by
  obtain ⟨m, rfl⟩ := h; obtain ⟨n, rfl⟩ := k; exact ⟨m ++ n, by simp⟩
/-- A new list under way, of flat elements, behind a state. -/
structure FlI {α : Type} [Enc α] [Own α] (σ0 : List AObj) (id : Nat) (f : Nat → α) (k : Nat) (s : List AObj × Nat) : Prop where
  l : Lst s.1 id s.2 (((List.range k).map f).map Enc.pv) [id] ((List.range k).map f)
  ge : σ0.length ≤ id
  e : Ext σ0 s.1
  g : Good s.1
  n : Nl [] s.1
  v : s.2 ≤ k
theorem FlI.start {α : Type} [Enc α] [Own α] {σ : List AObj} (f : Nat → α) (g : Good σ) (n : Nl [] σ) : FlI σ σ.length f 0 (σ ++ [.row (Enc.sz α) [] 0], 0) :=
  ⟨by simpa using Lst.new (α := α) σ 0, Nat.le_refl _, Ext.snoc _ _, Good.snoc g (by simp [PV.bels]), n.app (by simp [AObj.nl, PV.nls]), Nat.le_refl 0⟩
theorem FlI.push {α : Type} [Enc α] [Own α] [Flat α] {σ0 : List AObj} {id : Nat} {f : Nat → α} {k : Nat} {s : List AObj × Nat} (h : FlI σ0 id f k s) (hn : (Enc.pv (f k)).nl = true) :
    FlI σ0 id f (k + 1) (s.1.set id (.row (Enc.sz α) (((List.range k).map f).map Enc.pv ++ [Enc.pv (f k)]) (s.2 + 1)), s.2 + 1) := by
  have hp := h.l.push (own_flatE s.1 (f k)) (by simp)
  have e : (List.range (k + 1)).map f = (List.range k).map f ++ [f k] := by rw [List.range_succ]; simp
  refine ⟨?_, h.ge, h.e.set h.ge _, ?_, ?_, Nat.succ_le_succ h.v⟩
  · rw [e]; simpa using hp
  · refine Good.set h.g id _ _ ?_
    rw [bels_append, Bool.and_eq_true]
    exact ⟨Good.at h.g h.l.at, by simp only [PV.bels, Bool.and_true]; exact (own_flatE s.1 (f k)).bel⟩
  · refine h.n.set id (row_nl (nls_append (h.n.at (by simp) h.l.at) ?_))
    simp only [PV.nls, Bool.and_true]; exact hn
theorem nl_int (n : Int) : (Enc.pv n).nl = true := by simp [PV.nl]

theorem map_succ {α : Type} (f : Nat → α) (k : Nat) : (List.range (k + 1)).map f = (List.range k).map f ++ [f k] := by rw [List.range_succ]; simp
theorem get_set_ne {σ : List AObj} {i j : Nat} {r r' : AObj} (h : i ≠ j) (k : σ[j]? = some r') : (σ.set i r)[j]? = some r' := by rw [List.getElem?_set_ne h]; exact k
end Go.Proofs.Ytlolldjkahkbfaa

set_option linter.unusedVariables false
set_option linter.unusedSimpArgs false
set_option maxRecDepth 100000
namespace Go.Proofs.Ytlolldjkahkbfaa
open Aw
theorem OwnEs.set {α : Type} [Enc α] [Own α] {σ : List AObj} {js : List Nat} {p : PV} {x : α} (o : Own.own σ js p x) : ∀ {is : List (List Nat)} {es : List PV} {xs : List α} {j : Nat}, OwnEs σ is es xs → j < xs.length → OwnEs σ (is.set j js) (es.set j p) (xs.set j x)
  | i :: is, e :: es, y :: xs, 0, h, _ => ⟨o, h.2⟩
  | i :: is, e :: es, y :: xs, j + 1, h, hj => ⟨h.1, OwnEs.set o h.2 (by simpa using hj)⟩
  | [], [], [], _, h, hj => by simp at hj
  | [], [], _ :: _, _, h, _ => h.elim
  | [], _ :: _, _, _, h, _ => h.elim
  | _ :: _, [], _, _, h, _ => h.elim
  | _ :: _, _ :: _, [], _, h, _ => h.elim
theorem flatten_set_mem {js : List Nat} : ∀ {is : List (List Nat)} {j : Nat} {i : Nat}, i ∈ (is.set j js).flatten → i ∈ is.flatten ∨ i ∈ js
  | [], _, _, h => by simp at h
  | a :: is, 0, i, h => by
    simp only [List.set_cons_zero, List.flatten_cons, List.mem_append] at h ⊢
    rcases h with h | h
    · exact .inr h
    · exact .inl (.inr h)
  | a :: is, j + 1, i, h => by
    simp only [List.set_cons_succ, List.flatten_cons, List.mem_append] at h ⊢
    rcases h with h | h
    · exact .inl (.inl h)
    · rcases flatten_set_mem h with h | h
      · exact .inl (.inr h)
      · exact .inr h
theorem flatten_set_nodup {js : List Nat} (hj : js.Nodup) : ∀ {is : List (List Nat)} {j : Nat}, is.flatten.Nodup → (∀ i ∈ js, i ∉ is.flatten) → (is.set j js).flatten.Nodup
  | [], _, _, _ => by simp
  | a :: is, 0, h, hd => by
    simp only [List.set_cons_zero, List.flatten_cons] at h hd ⊢
    have h := List.nodup_append.1 h
    exact List.nodup_append.2 ⟨hj, h.2.1, fun x hx y hy e => hd x hx (List.mem_append_right _ (e ▸ hy))⟩
  | a :: is, j + 1, h, hd => by
    simp only [List.set_cons_succ, List.flatten_cons] at h hd ⊢
    have h := List.nodup_append.1 h
    refine List.nodup_append.2 ⟨h.1, flatten_set_nodup hj h.2.1 fun i hi hm => hd i hi (List.mem_append_right _ hm), fun x hx y hy e => ?_⟩
    rcases flatten_set_mem hy with hy | hy
    · exact h.2.2 x hx y hy e
    · exact hd y hy (List.mem_append_left _ (e ▸ hx))
/-- An element is put in its place. -/
theorem Lst.setAt {α : Type} [Enc α] [Own α] {σ : List AObj} {id v : Nat} {es : List PV} {ids : List Nat} {xs : List α} (h : Lst σ id v es ids xs) {js : List Nat} {p : PV} {x : α} (o : OwnIn σ js p x) (hd : ∀ i ∈ js, i ∉ ids) {j : Nat} (hj : j < xs.length) :
    ∃ ids', Lst (σ.set id (.row (Enc.sz α) (es.set j p) v)) id v (es.set j p) ids' (xs.set j x) ∧ ∀ i ∈ ids', i ∈ ids ∨ i ∈ js := by
  obtain ⟨h1, h2, ⟨is, rfl, h3⟩, h4, h5⟩ := h
  have hlt : id < σ.length := h5 id (by simp)
  have hn := List.nodup_cons.1 h4
  have hk := Keep.set σ id (.row (Enc.sz α) (es.set j p) v)
  refine ⟨id :: (is.set j js).flatten, ⟨List.getElem?_set_self hlt, by simp [h2], ⟨is.set j js, rfl, ?_⟩, ?_, ?_⟩, ?_⟩
  · refine OwnEs.set (Own.frame o.own fun i hi => hk.2 i fun hm => ?_) (h3.frame fun i hi => hk.2 i fun hm => ?_) hj
    · simp at hm; subst hm; exact hd i hi (by simp)
    · simp at hm; subst hm; exact hn.1 hi
  · refine List.nodup_cons.2 ⟨fun hm => ?_, flatten_set_nodup o.nd hn.2 fun i hi hm => hd i hi (List.mem_cons_of_mem _ hm)⟩
    rcases flatten_set_mem hm with hm | hm
    · exact hn.1 hm
    · exact hd id hm (by simp)
  · intro i hi
    rw [hk.1]
    rcases List.mem_cons.1 hi with rfl | hi
    · exact hlt
    · rcases flatten_set_mem hi with hi | hi
      · exact h5 i (List.mem_cons_of_mem _ hi)
      · exact o.lt i hi
  · intro i hi
    rcases List.mem_cons.1 hi with rfl | hi
    · exact .inl (by simp)
    · rcases flatten_set_mem hi with hi | hi
      · exact .inl (List.mem_cons_of_mem _ hi)
      · exact .inr hi
/-- A list of lists, all of them nil. -/
theorem Lst.nils {α : Type} [Enc α] [Own α] (σ : List AObj) (n : Nat) : Lst (α := List α) (σ ++ [.row 1 (List.replicate n (.val (.slice none 0 0))) 0]) σ.length 0 (List.replicate n (.val (.slice none 0 0))) [σ.length] (List.replicate n []) := by
  refine ⟨by simp, by simp, ⟨List.replicate n [], ?_, ?_⟩, by simp, by simp⟩
  · simp
  · have : ∀ n : Nat, OwnEs (α := List α) (σ ++ [.row 1 (List.replicate n (.val (.slice none 0 0))) 0]) (List.replicate n []) (List.replicate n (.val (.slice none 0 0))) (List.replicate n []) := by
      intro n
      generalize (σ ++ [AObj.row 1 (List.replicate n (.val (.slice none 0 0))) 0]) = τ
      induction n with
      | zero => trivial
      | succ n ih =>
        rw [List.replicate_succ, List.replicate_succ, List.replicate_succ]
        exact ⟨.inl ⟨rfl, rfl, rfl⟩, ih⟩
    exact this n
end Go.Proofs.Ytlolldjkahkbfaa
