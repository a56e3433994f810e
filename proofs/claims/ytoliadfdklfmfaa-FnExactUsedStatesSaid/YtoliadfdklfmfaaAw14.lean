/- Regions whose order is open: what does not hang on the order. -/
import Derived.Test.YtoliadfdklfmfaaAw13
set_option linter.unusedVariables false
set_option linter.unusedSimpArgs false
namespace Go.Proofs.Ytoliadfdklfmfaa
namespace Aw

def oslot : Operand → List Nat
  | .tmp t => [t]
  | _ => []
def ooslot : Option Operand → List Nat
  | some x => oslot x
  | none => []
/-- The slots that an operation reads. -/
def AI.slots : AI → List Nat
  | .mv x | .load _ _ x | .faddr x _ | .field x _ _ _ | .eqnil _ _ _ x | .un _ x | .conv _ x | .s2b x | .b2s x | .ext x _ | .nilc x | .len _ x | .cap x | .box _ x => oslot x
  | .pick c a b => oslot c ++ oslot a ++ oslot b
  | .idxb _ a x | .store _ a x | .iaddrS a x _ | .iaddrA a x _ _ | .idxStr a x | .idxArr a x _ _ _ | .bin _ a x | .mx a x | .eqb _ a x | .eqst _ _ a x | .append a x _ _ | .appz a x _ _ | .make a x _ _ _ => oslot a ++ oslot x
  | .build _ ps => ps.flatMap fun q => oslot q.2.2
  | .lits _ _ _ _ ps => ps.flatMap fun q => oslot q.2
  | .mkfn _ cs => cs.flatMap oslot
  | .slcS x l h m _ => oslot x ++ ooslot l ++ ooslot h ++ ooslot m
  | .slcStr x l h => oslot x ++ ooslot l ++ ooslot h
  | .alloc _ => []
  | .bad => []
  | .bld _ xs => xs.flatMap oslot
def AStep.slots : AStep → List Nat
  | .op i => i.slots
  | .call f args _ => oslot f ++ args.flatMap oslot
def AIn.reads (x : AIn) : List Nat := x.s.slots ++ (match x.g with | some (t, _) => [t] | none => [])
/-- Does it turn the state? -/
def AI.eff : AI → Bool
  | .store _ _ _ | .s2b _ | .alloc _ | .append _ _ _ _ | .appz _ _ _ _ | .make _ _ _ _ _ => true
  | .lits fz _ _ _ _ => !fz
  | .box fz _ => !fz
  | .bld k _ => k.eff
  | _ => false
/-- Does it look at the state? -/
def AI.sens : AI → Bool
  | .load _ _ _ | .iaddrS _ _ _ | .b2s _ | .slcS _ _ _ _ _ | .bld _ _ => true
  | _ => false
def AIn.eff (x : AIn) : Bool := match x.s with | .op i => i.eff | .call _ _ z => !z
def AIn.sens (x : AIn) : Bool := match x.s with | .op i => i.sens | .call _ _ z => !z

theorem aev_congr {fr fr' : List PV} {x : Operand} (h : ∀ t ∈ oslot x, fr[t]? = fr'[t]?) : aev fr x = aev fr' x := by
  cases x with
  | tmp t => simp only [aev, List.getD_eq_getElem?_getD]; rw [h t (by simp [oslot])]
  | _ => rfl
theorem bnd_congr {fr fr' : List PV} {d : Nat} {x : Option Operand} (h : ∀ t ∈ ooslot x, fr[t]? = fr'[t]?) : bnd fr d x = bnd fr' d x := by
  cases x with
  | none => rfl
  | some x => simp only [bnd]; rw [aev_congr (fr' := fr') h]
theorem putParts_congr {fr fr' : List PV} : ∀ {ps : List (Nat × Nat × Operand)} {cs : List PV}, (∀ t ∈ ps.flatMap fun q => oslot q.2.2, fr[t]? = fr'[t]?) → putParts fr cs ps = putParts fr' cs ps
  | [], _, _ => rfl
  | (off, n, x) :: ps, cs, h => by
    have h1 : aev fr x = aev fr' x := aev_congr fun t ht => h t (by simp [ht])
    have h2 : ∀ cs, putParts fr cs ps = putParts fr' cs ps := fun cs => putParts_congr fun t ht => h t (by simp at ht ⊢; exact .inr ht)
    simp only [putParts, h1, h2]
theorem map_congr_slots {fr fr' : List PV} {l : List Operand} (h : ∀ t ∈ l.flatMap oslot, fr[t]? = fr'[t]?) : l.map (aev fr) = l.map (aev fr') :=
  List.map_congr_left fun x hx => aev_congr fun t ht => h t (List.mem_flatMap.2 ⟨x, hx, ht⟩)

theorem ai_congr {fr fr' : List PV} {σ : List AObj} {i : AI} (h : ∀ t ∈ i.slots, fr[t]? = fr'[t]?) : ai fr σ i = ai fr' σ i := by
  have two : ∀ {x y : Operand}, (∀ t ∈ oslot x ++ oslot y, fr[t]? = fr'[t]?) → aev fr x = aev fr' x ∧ aev fr y = aev fr' y :=
    fun h => ⟨aev_congr fun t ht => h t (List.mem_append_left _ ht), aev_congr fun t ht => h t (List.mem_append_right _ ht)⟩
  cases i with
  | mv x => simp only [ai, aev_congr (fr' := fr') h]
  | load n agg x => simp only [ai, aev_congr (fr' := fr') h]
  | faddr x o => simp only [ai, aev_congr (fr' := fr') h]
  | field x a b c => simp only [ai, aev_congr (fr' := fr') h]
  | eqnil a b c x => simp only [ai, aev_congr (fr' := fr') h]
  | un op x => cases op <;> simp only [ai, aev_congr (fr' := fr') h]
  | conv k x => simp only [ai, aev_congr (fr' := fr') h]
  | s2b x => simp only [ai, aev_congr (fr' := fr') h]
  | b2s x => simp only [ai, aev_congr (fr' := fr') h]
  | ext x j => simp only [ai, aev_congr (fr' := fr') h]
  | nilc x => simp only [ai, aev_congr (fr' := fr') h]
  | cap x => simp only [ai, aev_congr (fr' := fr') h]
  | bad => rfl
  | len b x => simp only [ai, aev_congr (fr' := fr') h]
  | box b x => simp only [ai, aev_congr (fr' := fr') h]
  | pick c x y =>
    have h1 : aev fr c = aev fr' c := aev_congr fun t ht => h t (by simp [AI.slots, ht])
    have h2 : aev fr x = aev fr' x := aev_congr fun t ht => h t (by simp [AI.slots, ht])
    have h3 : aev fr y = aev fr' y := aev_congr fun t ht => h t (by simp [AI.slots, ht])
    simp only [ai, h1, h2, h3]
  | store n x y => obtain ⟨h1, h2⟩ := two h; simp only [ai, h1, h2]
  | iaddrS x y z => obtain ⟨h1, h2⟩ := two h; simp only [ai, h1, h2]
  | iaddrA x y z w => obtain ⟨h1, h2⟩ := two h; simp only [ai, h1, h2]
  | idxb _ x y => obtain ⟨h1, h2⟩ := two h; simp only [ai, h1, h2]
  | idxStr x y => obtain ⟨h1, h2⟩ := two h; simp only [ai, h1, h2]
  | idxArr x y a b c => obtain ⟨h1, h2⟩ := two h; simp only [ai, h1, h2]
  | bin op x y => obtain ⟨h1, h2⟩ := two h; simp only [ai, h1, h2]
  | mx x y => obtain ⟨h1, h2⟩ := two h; simp only [ai, h1, h2]
  | eqb b x y => obtain ⟨h1, h2⟩ := two h; simp only [ai, h1, h2]
  | eqst b ks x y => obtain ⟨h1, h2⟩ := two h; simp only [ai, h1, h2]
  | append x y a b => obtain ⟨h1, h2⟩ := two h; simp only [ai, h1, h2]
  | appz x y a b => obtain ⟨h1, h2⟩ := two h; simp only [ai, h1, h2]
  | make x y a b c => obtain ⟨h1, h2⟩ := two h; simp only [ai, h1, h2]
  | build z ps => simp only [ai, putParts_congr (fr' := fr') h]
  | lits fz sz len z ps =>
    have h1 : ∀ q ∈ ps, aev fr q.2 = aev fr' q.2 := fun q hq => aev_congr fun t ht => h t (by simp only [AI.slots, List.mem_flatMap]; exact ⟨q, hq, ht⟩)
    have h2 : (ps.map fun q => (q.1, aev fr q.2)) = ps.map fun q => (q.1, aev fr' q.2) := List.map_congr_left fun q hq => by rw [h1 q hq]
    have h3 : (ps.all fun q => (aev fr q.2).okc && decide ((aev fr q.2).cells.length = sz) && decide (q.1 < len)) = ps.all fun q => (aev fr' q.2).okc && decide ((aev fr' q.2).cells.length = sz) && decide (q.1 < len) := by
      rw [Bool.eq_iff_iff]; simp only [List.all_eq_true]
      exact ⟨fun k q hq => by rw [← h1 q hq]; exact k q hq, fun k q hq => by rw [h1 q hq]; exact k q hq⟩
    simp only [ai, h2, h3]
  | mkfn f cs => simp only [ai, map_congr_slots (fr' := fr') h]
  | slcS x l hh m sz =>
    have h1 : aev fr x = aev fr' x := aev_congr fun t ht => h t (by simp [AI.slots, ht])
    have h2 : ∀ d, bnd fr d l = bnd fr' d l := fun d => bnd_congr fun t ht => h t (by simp [AI.slots, ht])
    have h3 : ∀ d, bnd fr d hh = bnd fr' d hh := fun d => bnd_congr fun t ht => h t (by simp [AI.slots, ht])
    have h4 : ∀ d, bnd fr d m = bnd fr' d m := fun d => bnd_congr fun t ht => h t (by simp [AI.slots, ht])
    simp only [ai, h1, h2, h3, h4]
    cases m with
    | none => rfl
    | some m => simp only [h4]
  | slcStr x l hh =>
    have h1 : aev fr x = aev fr' x := aev_congr fun t ht => h t (by simp [AI.slots, ht])
    have h2 : ∀ d, bnd fr d l = bnd fr' d l := fun d => bnd_congr fun t ht => h t (by simp [AI.slots, ht])
    have h3 : ∀ d, bnd fr d hh = bnd fr' d hh := fun d => bnd_congr fun t ht => h t (by simp [AI.slots, ht])
    simp only [ai, h1, h2, h3]
  | alloc z => rfl
  | bld k xs => simp only [ai, map_congr_slots (fr' := fr') h]

/-- What has no effect leaves the state. -/
theorem ai_noeff {fr : List PV} {σ σ' : List AObj} {i : AI} {p : PV} (he : i.eff = false) (h : ai fr σ i = some (p, σ')) : σ' = σ := by
  cases i with
  | store | s2b | alloc | append | appz | make => simp [AI.eff] at he
  | lits fz =>
    simp [AI.eff] at he; subst he; simp only [ai] at h
    split at h
    · simp only [if_true] at h
      split at h <;> (injection h with h; injection h with h1 h2; exact h2.symm)
    · cases h
  | box fz => simp [AI.eff] at he; subst he; simp only [ai] at h; split at h <;> simp at h; exact h.2.symm
  | len str x =>
    simp only [ai] at h
    cases hq : (if str = true then lenS (aev fr x) else lenA (aev fr x)) with
    | none => rw [hq] at h; simp at h
    | some n => rw [hq] at h; simp at h; exact h.2.symm
  | cap x =>
    simp only [ai] at h
    cases hq : capA (aev fr x) with
    | none => rw [hq] at h; simp at h
    | some n => rw [hq] at h; simp at h; exact h.2.symm
  | bad => simp [ai] at h
  | bld k xs =>
    simp only [ai] at h
    generalize xs.map (aev fr) = ps at h
    unfold bldA at h
    split at h <;> first | (simp [AI.eff, BK.eff] at he; done) | skip
    all_goals (repeat' split at h) <;> simp at h <;> exact h.2.symm
  | un op x => cases op <;> simp only [ai] at h <;> (repeat' split at h) <;> simp at h <;> grind
  | _ => simp only [ai] at h <;> (repeat' split at h) <;> simp at h <;> grind
/-- What does not look at the state gives the same at every one. -/
theorem ai_nosens {fr : List PV} {σ σ1 : List AObj} {i : AI} {p : PV} (he : i.eff = false) (hn : i.sens = false) (h : ai fr σ i = some (p, σ)) : ai fr σ1 i = some (p, σ1) := by
  cases i with
  | store | s2b | alloc | append | appz | make => simp [AI.eff] at he
  | load | iaddrS | b2s | slcS | bld => simp [AI.sens] at hn
  | lits fz =>
    simp [AI.eff] at he; subst he; simp only [ai] at h ⊢
    split at h
    · rename_i hc
      rw [if_pos hc]
      simp only [if_true] at h ⊢
      split at h <;> rename_i hb <;> (injection h with h; injection h with h1 h2; subst h1)
      · rw [if_pos hb]
      · rw [if_neg hb]
    · cases h
  | box fz => simp [AI.eff] at he; subst he; simp only [ai] at h ⊢; split at h <;> simp at h; rename_i hc; rw [if_pos hc, ← h]; rfl
  | len str x =>
    simp only [ai] at h ⊢
    cases hq : (if str = true then lenS (aev fr x) else lenA (aev fr x)) with
    | none => rw [hq] at h; simp at h
    | some n => rw [hq] at h; simp at h; simp [h]
  | cap x =>
    simp only [ai] at h ⊢
    cases hq : capA (aev fr x) with
    | none => rw [hq] at h; simp at h
    | some n => rw [hq] at h; simp at h; simp [h]
  | bad => simp [ai] at h
  | un op x => cases op <;> simp only [ai] at h ⊢ <;> (repeat' split at h) <;> simp_all
  | _ => simp only [ai] at h ⊢ <;> (repeat' split at h) <;> simp_all

end Aw
end Go.Proofs.Ytoliadfdklfmfaa
