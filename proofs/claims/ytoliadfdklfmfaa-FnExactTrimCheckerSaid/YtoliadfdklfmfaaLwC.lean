/- What the calls of a law with marks come to, over states that are not written out. -/
import Derived.Test.YtoliadfdklfmfaaMks
set_option linter.unusedVariables false
set_option linter.unusedSimpArgs false
set_option maxRecDepth 100000
namespace Go.Proofs.Ytoliadfdklfmfaa
open Aw

/-- A state that has grown. -/
def Ext (σ σ' : List AObj) : Prop := ∃ m, σ' = σ ++ m
theorem Ext.refl (σ : List AObj) : Ext σ σ := ⟨[], by simp⟩
theorem Ext.snoc (σ : List AObj) (r : AObj) : Ext σ (σ ++ [r]) := ⟨[r], rfl⟩
theorem Ext.len {σ σ' : List AObj} (h : Ext σ σ') : σ.length ≤ σ'.length := by obtain ⟨m, rfl⟩ := h; simp
theorem Ext.get {σ σ' : List AObj} {j : Nat} {r : AObj} (h : Ext σ σ') (k : σ[j]? = some r) : σ'[j]? = some r := by
  obtain ⟨m, rfl⟩ := h
  rw [List.getElem?_append_left (List.getElem?_eq_some_iff.1 k).1]; exact k
theorem Ext.own {α : Type} [Enc α] [Own α] {σ σ' : List AObj} {ids : List Nat} {p : PV} {x : α} (h : Ext σ σ') (o : OwnIn σ ids p x) : OwnIn σ' ids p x := by
  obtain ⟨m, rfl⟩ := h; exact o.grow m
theorem Gud.nil : Gud [] := by simp [Gud, objsBel]
theorem Gud.snoc {σ : List AObj} (h : Gud σ) {sz : Nat} {es : List PV} {ver : Nat} (hb : PV.bels σ.length es = true) : Gud (σ ++ [.row sz es ver]) := by
  unfold Gud
  rw [List.length_append]
  refine objsBel_app (objsBel_mono (by omega) h) ?_
  simp only [objsBel, Bool.and_true]
  exact PV.bels_le (by omega) hb
/-- A state in which only the objects named have turned. -/
def Keep (ids : List Nat) (σ σ' : List AObj) : Prop := σ'.length = σ.length ∧ ∀ j, j ∉ ids → σ'[j]? = σ[j]?
theorem Keep.get {ids : List Nat} {σ σ' : List AObj} {j : Nat} {r : AObj} (h : Keep ids σ σ') (hj : j ∉ ids) (k : σ[j]? = some r) : σ'[j]? = some r := by rw [h.2 j hj]; exact k
theorem Keep.own {α : Type} [Enc α] [Own α] {ids js : List Nat} {σ σ' : List AObj} {p : PV} {x : α} (h : Keep ids σ σ') (o : OwnIn σ js p x) (hd : ∀ i ∈ js, i ∉ ids) : OwnIn σ' js p x :=
  o.keep h.1 fun i hi => h.2 i (hd i hi)

/-! ### Calls -/
theorem lw_to {α : Type} [Enc α] [Own α] {f : FuncId} {sz : α → Nat} (h : ToC fns f sz) (x : α) (hx : sz x ≤ 1048576) (σ : List AObj) (hg : Gud σ) :
    ∃ p σ' ids, callN fns f [Enc.pv x] σ = some (p, σ') ∧ OwnIn σ' ids p x ∧ (∀ i ∈ ids, σ.length ≤ i) ∧ Gud σ' ∧ Ext σ σ' := by
  obtain ⟨p, τ, ids, e1, e2, e3, e4⟩ := h x hx
  refine ⟨p.sh σ.length, _, ids.map (· + σ.length), ?_, e2.shift σ, fun i hi => ?_, hg.app e3.1, ⟨_, rfl⟩⟩
  · rw [callN_made (by simp [PV.bels]) e1]; rfl
  · obtain ⟨j, _, rfl⟩ := List.mem_map.1 hi; omega
theorem lw_cz {α : Type} [Enc α] [Own α] {f : FuncId} {sz : α → Nat} (h : ToC fns f sz) (x : α) (hx : sz x ≤ 1048576) (hd : Own.dep α ≤ 9) (hc : ∀ r, callN fns f [Enc.pv x] [] = some r → callV fns (ev fns) (.val (.func (.func f) #[] #[])) [Enc.pv x] [] = some r) :
    ∃ q, q.bel 0 = true ∧ PV.ty (Own.sh α) q = Enc.pv x ∧ ∀ σ, cz true (callV fns (ev fns)) (.val (.func (.func f) #[] #[])) [Enc.pv x] σ = some (q, σ) := by
  obtain ⟨p, τ, ids, a1, o1, _⟩ := h.callS x hx [] GoodN.nil
  obtain ⟨q, d, y⟩ := o1.read hd
  exact ⟨q, dfr_bel d, y, cz_made (by simp [PV.bels]) (hc _ a1) d⟩
theorem lw_eq2 {α : Type} [Enc α] [Own α] {f : FuncId} {σ : List AObj} {p p' : PV} {ids ids' : List Nat} {x : α} (hd : Own.dep α ≤ 9) (o : OwnIn σ ids p x) (o' : OwnIn σ ids' p' x) (h : ev fns f [Enc.pv x, Enc.pv x] [] = some (bol true, [])) :
    callT fns [Own.sh α, Own.sh α] f [p, p'] σ = some (bol true, σ) := by
  obtain ⟨q, d, y⟩ := o.read hd
  obtain ⟨q', d', y'⟩ := o'.read hd
  exact callT_readL (qs := [q, q']) (by simp only [mapO, d, d']) (by simp only [PV.tys, y, y']; exact h) (by simp) (by simp [PV.nl])
theorem lw_eqL {α : Type} [Enc α] [Own α] {f : FuncId} {σ : List AObj} {p q' : PV} {ids : List Nat} {x : α} (hd : Own.dep α ≤ 9) (o : OwnIn σ ids p x) (y' : PV.ty (Own.sh α) q' = Enc.pv x) (d' : dfr σ 9 q' = some q') (h : ev fns f [Enc.pv x, Enc.pv x] [] = some (bol true, [])) :
    callT fns [Own.sh α, Own.sh α] f [p, q'] σ = some (bol true, σ) := by
  obtain ⟨q, d, y⟩ := o.read hd
  exact callT_readL (qs := [q, q']) (by simp only [mapO, d, d']) (by simp only [PV.tys, y, y']; exact h) (by simp) (by simp [PV.nl])
theorem lw_mark {α : Type} [Enc α] [Own α] {f : FuncId} {W : α → Nat} {mk : α → Int → α} (h : MarkC fns f W mk) (k : Int) {σ : List AObj} {ids : List Nat} {p : PV} {x : α} (o : OwnIn σ ids p x) (hg : Gud σ) (hk : 0 < k) (hw : k + W x ≤ 4611686018427387904) :
    ∃ σ', ev fns f [p, i64 k] σ = some (i64 (k + W x), σ') ∧ OwnIn σ' ids p (mk x k) ∧ Gud σ' ∧ Keep ids σ σ' := by
  obtain ⟨σ', e1, e2, e3, e4, e5, _⟩ := h σ ids p x k o hg hk hw
  exact ⟨σ', e1, e2, e5, e3, e4⟩
theorem lw_held {α : Type} [Enc α] [Own α] {f : FuncId} {W : α → Nat} {mk : α → Int → α} (h : HeldC fns f W mk) (hd : Own.dep α ≤ 9) (k : Int) {σ : List AObj} {ids : List Nat} {p : PV} {x : α} (o : OwnIn σ ids p (mk x k)) (hk : 0 < k) (hw : k + W x ≤ 4611686018427387904) :
    callT fns [Own.sh α, .any] f [p, i64 k] σ = some (i64 (k + W x), σ) := by
  obtain ⟨q, d, y⟩ := o.read hd
  exact callT_readL (qs := [q, i64 k]) (by simp only [mapO, d]; simp [dfr]) (by simp only [PV.tys, y]; exact h σ ids p x k o.own hk hw) (by simp) (by simp [PV.nl])
theorem lw_made {α : Type} [Enc α] [Own α] {p : PV} {τ : List AObj} {ids : List Nat} {x : α} {pre post : List PV} (o : OwnIn τ ids p x) (g : Gud τ) (b1 : PV.bels 0 pre = true) (b2 : PV.bels 0 post = true) {σ : List AObj} (hg : Gud σ) :
    ∃ p' σ' ids', behind σ (.tup (pre ++ p :: post), τ) = (.tup (pre ++ p' :: post), σ') ∧ OwnIn σ' ids' p' x ∧ (∀ i ∈ ids', σ.length ≤ i) ∧ Gud σ' ∧ Ext σ σ' := by
  refine ⟨p.sh σ.length, σ ++ τ.map (AObj.sh σ.length), ids.map (· + σ.length), ?_, o.shift σ, fun i hi => ?_, hg.app g, ⟨_, rfl⟩⟩
  · have sh0 : ∀ {l : List PV}, PV.bels 0 l = true → ∀ k l', PV.shs k (l ++ l') = l ++ PV.shs k l' := by
      intro l
      induction l with
      | nil => intro _ k l'; rfl
      | cons a l ih =>
        intro h k l'
        simp only [PV.bels, Bool.and_eq_true] at h
        simp only [List.cons_append, PV.shs, PV.sh_bel0 _ h.1, ih h.2]
    have e2 : PV.shs σ.length post = post := by have := sh0 b2 σ.length []; simpa [PV.shs] using this
    unfold behind
    simp only [PV.sh, sh0 b1, PV.shs, e2]
  · obtain ⟨j, _, rfl⟩ := List.mem_map.1 hi; omega
theorem lw_impl {α : Type} [Enc α] [Own α] {f : FuncId} {ss : List Sh} {args qs qs' : List PV} {p : PV} {τ : List AObj} {ids : List Nat} {x : α} (pre post : List PV) (he : ev fns f qs' [] = some (.tup (pre ++ p :: post), τ)) (o : OwnIn τ ids p x) (g : GoodN τ)
    (b1 : PV.bels 0 pre = true ∧ PV.nls pre = true) (b2 : PV.bels 0 post = true ∧ PV.nls post = true) {σ : List AObj} (hq : mapO (dfr σ 9) args = some qs) (ht : PV.tys ss qs = qs') (hg : Gud σ) :
    ∃ p' σ' ids', callT fns ss f args σ = some (.tup (pre ++ p' :: post), σ') ∧ OwnIn σ' ids' p' x ∧ (∀ i ∈ ids', σ.length ≤ i) ∧ Gud σ' ∧ Ext σ σ' := by
  obtain ⟨p', σ', ids', e, r⟩ := lw_made o g.1 b1.1 b2.1 hg
  refine ⟨p', σ', ids', ?_, r⟩
  rw [callT_read hq (by rw [ht]; exact he) ⟨?_, g.2⟩, e]
  have nls_app : ∀ {l l' : List PV}, PV.nls l = true → PV.nls l' = true → PV.nls (l ++ l') = true := by
    intro l l' h1 h2
    rw [PV.nls_iff] at *
    intro q hq
    rcases List.mem_append.1 hq with hq | hq
    · exact h1 q hq
    · exact h2 q hq
  simp only [PV.nl]
  exact nls_app b1.2 (by simp only [PV.nls, Bool.and_eq_true]; exact ⟨Own.nl o.own, b2.2⟩)
theorem lw_implN {α : Type} [Enc α] [Own α] {f : FuncId} {args : List PV} {p : PV} {τ : List AObj} {ids : List Nat} {x : α} (pre post : List PV) (he : ev fns f args [] = some (.tup (pre ++ p :: post), τ)) (o : OwnIn τ ids p x) (g : GoodN τ)
    (b1 : PV.bels 0 pre = true) (b2 : PV.bels 0 post = true) (ha : PV.bels 0 args = true) {σ : List AObj} (hg : Gud σ) :
    ∃ p' σ' ids', callN fns f args σ = some (.tup (pre ++ p' :: post), σ') ∧ OwnIn σ' ids' p' x ∧ (∀ i ∈ ids', σ.length ≤ i) ∧ Gud σ' ∧ Ext σ σ' := by
  obtain ⟨p', σ', ids', e, r⟩ := lw_made o g.1 b1 b2 hg
  exact ⟨p', σ', ids', by rw [callN_made ha he, e], r⟩

/-! ### Frozen values, read off their types -/
theorem ty_lst_inv {p : PV} {s s' : Nat} {sh : Sh} {xs : List PV} (h : PV.ty (.lst s sh) p = .list s' xs false) : p.one = true ∧ (∀ σ d, dfr σ (d + 1) p = some p) ∧ p.bel 0 = true ∧ p.okc = true ∧ p.cells = [p] := by
  rcases PV.ty_lst s sh p with ⟨rfl, _⟩ | ⟨_, _, rfl, _⟩ | ⟨_, _, _, _, rfl, _⟩ | e
  · exact ⟨by simp [PV.one, Value.oneCell'], fun _ _ => rfl, rfl, by simp [PV.okc, PV.one, Value.oneCell'], rfl⟩
  · exact ⟨rfl, fun _ _ => rfl, rfl, rfl, rfl⟩
  · exact ⟨rfl, fun _ _ => rfl, rfl, rfl, rfl⟩
  · rw [e] at h; subst h; exact ⟨rfl, fun _ _ => rfl, rfl, rfl, rfl⟩
theorem ty_agg_inv {p : PV} {ss : List Sh} {ps : List PV} (h : PV.ty (.agg ss) p = .agg ps) : ∃ qs, p = .agg qs ∧ PV.tys ss qs = ps := by
  cases p <;> simp_all [PV.ty]
theorem tys_cons_inv {s : Sh} {ss : List Sh} {qs : List PV} {p : PV} {ps : List PV} (h : PV.tys (s :: ss) qs = p :: ps) : ∃ q qs', qs = q :: qs' ∧ PV.ty s q = p ∧ PV.tys ss qs' = ps := by
  cases qs with
  | nil => simp [PV.tys] at h
  | cons q qs => simp only [PV.tys, List.cons.injEq] at h; exact ⟨q, qs, rfl, h.1, h.2⟩
theorem tys_nil_inv {qs : List PV} (h : PV.tys [] qs = []) : qs = [] := h
theorem sumW_le4 {α : Type} [Siz α] {W : α → Nat} (h : ∀ y : α, W y ≤ 4 * (Siz.size y + 1)) : ∀ xs : List α, sumW W xs ≤ 4 * Siz.size xs := by
  intro xs
  rw [Siz.size_list]
  induction xs with
  | nil => simp [sumW]
  | cons x xs ih => simp only [sumW, Siz.sum, List.length_cons]; have := h x; omega
theorem own_nilL {α : Type} [Enc α] [Own α] {σ : List AObj} : OwnIn σ [] (.val (.slice none 0 0)) ([] : List α) := ⟨.inl ⟨rfl, rfl, rfl⟩, by simp, by simp⟩
theorem own_intsL (l : List Int) (h : l.length ≤ 140737488355328) : OwnIn [.row 1 (l.map Enc.pv) 0] [0] (.own 0 0 0 l.length) l := ⟨own_flat l rfl h, by simp, by simp⟩
theorem goodN_intsL (l : List Int) : GoodN [.row 1 (l.map Enc.pv) 0] := by
  refine ⟨by simp only [Gud, List.length_singleton, objsBel, Bool.and_true]; exact bels_map _ _, ?_⟩
  simp only [List.all_cons, List.all_nil, Bool.and_true, AObj.nl, PV.nls_iff]
  intro p hp
  obtain ⟨y, _, rfl⟩ := List.mem_map.1 hp
  simp [PV.nl]
end Go.Proofs.Ytoliadfdklfmfaa
