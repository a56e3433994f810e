/- What a call in a state of its own leaves, set behind the caller's objects. -/
import Derived.Test.YtegjfjckijmgcaaAw20
set_option linter.unusedVariables false
set_option linter.unusedSimpArgs false
namespace Go.Proofs.Ytegjfjckijmgcaa
namespace Aw

mutual
/-- The same, its objects counted from k on. -/
def PV.sh (k : Nat) : PV → PV
  | .agg ps => .agg (PV.shs k ps)
  | .tup ps => .tup (PV.shs k ps)
  | .fn f ps => .fn f (PV.shs k ps)
  | .own id ver off len => .own (id + k) ver off len
  | .ptr id ver i off => .ptr (id + k) ver i off
  | .any => .any
  | .val v => .val v
  | .list a b c => .list a b c
  | .fptr a b => .fptr a b
  | .tl sz xs => .tl sz (PV.shs k xs)
def PV.shs (k : Nat) : List PV → List PV
  | [] => []
  | p :: ps => PV.sh k p :: PV.shs k ps
end
theorem PV.shs_map (k : Nat) : ∀ ps : List PV, PV.shs k ps = ps.map (PV.sh k)
  | [] => rfl
  | p :: ps => by simp [PV.shs, PV.shs_map k ps]
mutual
/-- No memory in it but objects of the state. -/
def PV.nl : PV → Bool
  | .agg ps => PV.nls ps
  | .tup ps => PV.nls ps
  | .fn f ps => PV.nls ps
  | .own _ _ _ _ => true
  | .ptr _ _ _ _ => true
  | .any => true
  | .val _ => true
  | .list _ xs _ => xs.isEmpty
  | .fptr _ _ => false
  | .tl _ _ => false
def PV.nls : List PV → Bool
  | [] => true
  | p :: ps => PV.nl p && PV.nls ps
end
theorem PV.nls_iff : ∀ {ps : List PV}, PV.nls ps = true ↔ ∀ p ∈ ps, p.nl = true
  | [] => by simp [PV.nls]
  | p :: ps => by simp [PV.nls, PV.nls_iff (ps := ps)]
mutual
theorem PV.sh_bel0 (k : Nat) : ∀ {p : PV}, p.bel 0 = true → p.sh k = p
  | .agg ps, h => by simp only [PV.bel] at h; simp only [PV.sh, PV.shs_bel0 k h]
  | .tup ps, h => by simp only [PV.bel] at h; simp only [PV.sh, PV.shs_bel0 k h]
  | .fn f ps, h => by simp only [PV.bel] at h; simp only [PV.sh, PV.shs_bel0 k h]
  | .own _ _ _ _, h => by simp [PV.bel] at h
  | .ptr _ _ _ _, h => by simp [PV.bel] at h
  | .any, _ => by simp [PV.sh]
  | .val _, _ => by simp [PV.sh]
  | .list _ _ _, _ => by simp [PV.sh]
  | .fptr _ _, _ => by simp [PV.sh]
  | .tl _ xs, h => by simp only [PV.bel] at h; simp only [PV.sh, PV.shs_bel0 k h]
theorem PV.shs_bel0 (k : Nat) : ∀ {ps : List PV}, PV.bels 0 ps = true → PV.shs k ps = ps
  | [], _ => by simp [PV.shs]
  | p :: ps, h => by
    simp only [PV.bels, Bool.and_eq_true] at h
    simp only [PV.shs, PV.sh_bel0 k h.1, PV.shs_bel0 k h.2]
end
theorem PV.sh_cells (k : Nat) (p : PV) : (p.sh k).cells = p.cells.map (PV.sh k) := by
  cases p <;> simp [PV.sh, PV.cells, PV.shs_map]
def AObj.sh (k : Nat) : AObj → AObj
  | .row sz es ver => .row sz (PV.shs k es) ver
def AObj.nl : AObj → Bool
  | .row sz es ver => PV.nls es

theorem VR.sh {g1 g2 : G} {k : Nat} {full : Bool} (hσ : ∀ (i : Nat) sz es ver, g1.σ[i]? = some (.row sz es ver) → g2.σ[i + k]? = some (.row sz (PV.shs k es) ver))
    (hρ : ∀ i, i < g1.σ.length → g2.ρ[i + k]? = g1.ρ[i]?) (hw : g2.w = g1.w) (hf : full = true → ∀ b, g1.frz b → g2.frz b) :
    ∀ {m : Nat} {p : PV} {c : Value}, (full = false → p.nl = true) → VR g1 m p c → VR g2 m (p.sh k) c
  | 0, _, _, _, h => h.elim
  | m + 1, p, c, hn, h => by
    have ih := @VR.sh g1 g2 k full hσ hρ hw hf m
    have shj : ∀ {ps : List PV} {j : Nat} {q : PV}, (PV.shs k ps)[j]? = some q → ∃ p, ps[j]? = some p ∧ q = p.sh k := by
      intro ps j q hq
      rw [PV.shs_map, List.getElem?_map] at hq
      cases hp : ps[j]? with
      | none => rw [hp] at hq; simp at hq
      | some p => rw [hp] at hq; simp at hq; exact ⟨p, rfl, hq.symm⟩
    have lenS : ∀ ps : List PV, (PV.shs k ps).length = ps.length := fun ps => by rw [PV.shs_map]; simp
    cases p with
    | any => simp only [PV.sh]; trivial
    | val v => simp only [PV.sh]; exact h
    | agg ps =>
      simp only [PV.sh, VR, PV.nl] at h hn ⊢
      obtain ⟨cs, h1, h2, h3⟩ := h
      refine ⟨cs, h1, by rw [lenS]; exact h2, fun j q v hq hv => ?_⟩
      obtain ⟨p, hp, rfl⟩ := shj hq
      exact ih (fun e => PV.nls_iff.1 (hn e) p (List.mem_of_getElem? hp)) (h3 j p v hp hv)
    | tup ps =>
      simp only [PV.sh, VR, PV.nl] at h hn ⊢
      obtain ⟨cs, h1, h2, h3⟩ := h
      refine ⟨cs, h1, by rw [lenS]; exact h2, fun j q v hq hv => ?_⟩
      obtain ⟨p, hp, rfl⟩ := shj hq
      exact ih (fun e => PV.nls_iff.1 (hn e) p (List.mem_of_getElem? hp)) (h3 j p v hp hv)
    | fn f ps =>
      simp only [PV.sh, VR, PV.nl] at h hn ⊢
      obtain ⟨cs, h1, h2, h3⟩ := h
      refine ⟨cs, h1, by rw [lenS]; exact h2, fun j q v hq hv => ?_⟩
      obtain ⟨p, hp, rfl⟩ := shj hq
      exact ih (fun e => PV.nls_iff.1 (hn e) p (List.mem_of_getElem? hp)) (h3 j p v hp hv)
    | list sz xs ex =>
      simp only [PV.sh, VR, PV.nl] at h hn ⊢
      obtain ⟨a, cap, h1, h2, h3, h4, h5, h6⟩ := h
      refine ⟨a, cap, h1, h2, h3, h4, h5, fun h0 => ?_⟩
      obtain ⟨ad, e1, e2, e3, e4⟩ := h6 h0
      cases full with
      | false =>
        have := hn rfl
        simp at this; subst this; simp at h0
      | true =>
        refine ⟨ad, e1, e2, hf rfl _ e3, fun j p hp => ?_⟩
        obtain ⟨v, q1, q2⟩ := e4 j p hp
        obtain ⟨x, hx, hp'⟩ := List.mem_flatMap.1 (List.mem_of_getElem? hp)
        have := ih (by simp) q2
        rw [PV.sh_bel0 k (bels_cells (h5 x hx).1 p hp')] at this
        exact ⟨v, by rw [hw]; exact q1, this⟩
    | tl sz xs =>
      simp only [PV.sh, VR, PV.nl] at h hn ⊢
      obtain ⟨a, cap, h1, h2, h3, h6⟩ := h
      cases full with
      | false => simp at hn
      | true =>
        refine ⟨a, cap, by rw [lenS]; exact h1, by rw [lenS]; exact h2, fun x hx => ?_, fun h0 => ?_⟩
        · rw [PV.shs_map] at hx
          obtain ⟨y, hy, rfl⟩ := List.mem_map.1 hx
          rw [PV.sh_cells]; simpa using h3 y hy
        · rw [lenS] at h0
          obtain ⟨ad, e1, e2, e3, e4⟩ := h6 h0
          refine ⟨ad, e1, e2, hf rfl _ e3, fun j p hp => ?_⟩
          have hfm : (PV.shs k xs).flatMap PV.cells = (xs.flatMap PV.cells).map (PV.sh k) := by
            rw [PV.shs_map, List.flatMap_map, List.map_flatMap]
            congr 1; funext x; exact PV.sh_cells _ x
          rw [hfm, List.getElem?_map] at hp
          cases hq0 : (xs.flatMap PV.cells)[j]? with
          | none => rw [hq0] at hp; simp at hp
          | some q0 =>
            rw [hq0] at hp; simp at hp; subst hp
            obtain ⟨v, q1, q2⟩ := e4 j q0 hq0
            exact ⟨v, by rw [hw]; exact q1, ih (by simp) q2⟩
    | fptr cs off =>
      simp only [PV.sh, VR, PV.nl] at h hn ⊢
      obtain ⟨ad, e1, e2, e3, e4⟩ := h
      cases full with
      | false => simp at hn
      | true =>
        refine ⟨ad, e1, e2, hf rfl _ e3, fun j p hp => ?_⟩
        obtain ⟨q0, v, q1, q2⟩ := e4 j p hp
        have := ih (by simp) q2
        rw [PV.sh_bel0 k q0] at this
        exact ⟨q0, v, by rw [hw]; exact q1, this⟩
    | own id ver off len =>
      simp only [PV.sh, VR] at h ⊢
      obtain ⟨a, cap, q1, q2, sz, es, v1, h1, h2, h3⟩ := h
      refine ⟨a, cap, q1, q2, sz, _, v1, hσ id sz es v1 h1, h2, fun e => ?_⟩
      obtain ⟨h4, h5⟩ := h3 e
      refine ⟨by rw [lenS]; exact h4, ?_⟩
      rw [hρ id (List.getElem?_eq_some_iff.1 h1).1, hw]
      exact h5
    | ptr id ver i off =>
      simp only [PV.sh, VR] at h ⊢
      obtain ⟨ad, q0, sz, es, v1, h1, h2, h3⟩ := h
      refine ⟨ad, q0, sz, _, v1, hσ id sz es v1 h1, h2, fun e => ?_⟩
      obtain ⟨h4, h5⟩ := h3 e
      rw [lenS, hρ id (List.getElem?_eq_some_iff.1 h1).1]
      exact ⟨h4, h5⟩

/-- From a call in a state of its own to a call behind the caller's objects. full: the caller's objects are out of sight; else: they are lent, and what comes back has no memory but new objects. -/
theorem ACall_lend {P : Program} {f : FuncId} {args args' : List PV} {σ : List AObj} {full : Bool} {Q : PV → List AObj → Prop} (h : ACall P f args' [] Q)
    (ha : if full then args' = args ∧ PV.bels 0 args = true else ∃ d, mapO (dfr σ d) args = some args') (hq : full = false → ∀ p τ, Q p τ → p.nl = true ∧ ∀ o ∈ τ, o.nl = true) :
    ACall P f args σ fun p σ' => ∃ q τ, Q q τ ∧ p = q.sh σ.length ∧ σ' = σ ++ τ.map (AObj.sh σ.length) := by
  intro g vs hg hst hr
  subst hg
  let H : List Nat := if full then g.h ++ g.ρ.filterMap id else g.h
  have hmem : ∀ b, b ∈ g.ρ.filterMap id ↔ ∃ i : Nat, g.ρ[i]? = some (some b) := by
    intro b
    simp only [List.mem_filterMap, id, exists_eq_right]
    exact List.mem_iff_getElem?
  have hH : ∀ b ∈ H, b < g.w.heap.size := by
    intro b hb
    simp only [H] at hb
    split at hb
    · rcases List.mem_append.1 hb with h1 | h1
      · exact hst.hid.1 b h1
      · obtain ⟨i, hi⟩ := (hmem b).1 h1; exact hst.block_lt hi
    · exact hst.hid.1 b hb
  have hr1 : Rs ⟨[], [], g.w, H⟩ args' vs := by
    cases full with
    | true =>
      simp only [if_true] at ha
      obtain ⟨rfl, hb⟩ := ha
      refine ⟨hr.1, fun j p v hp hv => ?_⟩
      have hp0 := PV.bels_iff.1 hb p (List.mem_of_getElem? hp)
      obtain ⟨m, hm⟩ := hr.2 j p v hp hv
      -- by the reading of values without references
      exact ⟨m, by
        have key : ∀ {m : Nat} {p : PV} {c : Value}, p.bel 0 = true → VR g m p c → VR ⟨[], [], g.w, H⟩ m p c := by
          intro m
          induction m with
          | zero => intro p c _ h; exact h.elim
          | succ m ih =>
            intro p c hb k
            have hfz : ∀ b, g.frz b → G.frz ⟨[], [], g.w, H⟩ b := fun b hb => ⟨hb.1, fun i hi => by simp at hi, fun hh => by
              simp only [H, if_true] at hh
              rcases List.mem_append.1 hh with h1 | h1
              · exact hb.2.2 h1
              · obtain ⟨i, hi⟩ := (hmem b).1 h1; exact hb.2.1 i hi⟩
            cases p with
            | any => trivial
            | val v => exact k
            | agg ps =>
              simp only [VR, PV.bel] at k hb ⊢
              obtain ⟨cs, h1, h2, h3⟩ := k
              exact ⟨cs, h1, h2, fun j p v hp hv => ih (PV.bels_iff.1 hb p (List.mem_of_getElem? hp)) (h3 j p v hp hv)⟩
            | tup ps =>
              simp only [VR, PV.bel] at k hb ⊢
              obtain ⟨cs, h1, h2, h3⟩ := k
              exact ⟨cs, h1, h2, fun j p v hp hv => ih (PV.bels_iff.1 hb p (List.mem_of_getElem? hp)) (h3 j p v hp hv)⟩
            | list sz xs ex =>
              simp only [VR] at k ⊢
              obtain ⟨a, cap, h1, h2, h3, h4, h5, h6⟩ := k
              refine ⟨a, cap, h1, h2, h3, h4, h5, fun h0 => ?_⟩
              obtain ⟨ad, e1, e2, e3, e4⟩ := h6 h0
              refine ⟨ad, e1, e2, hfz _ e3, fun j p hp => ?_⟩
              obtain ⟨v, q1, q2⟩ := e4 j p hp
              refine ⟨v, q1, ih ?_ q2⟩
              obtain ⟨x, hx, hp'⟩ := List.mem_flatMap.1 (List.mem_of_getElem? hp)
              exact bels_cells (h5 x hx).1 p hp'
            | tl sz xs =>
              simp only [VR, PV.bel] at k hb ⊢
              obtain ⟨a, cap, h1, h2, h3, h6⟩ := k
              refine ⟨a, cap, h1, h2, h3, fun h0 => ?_⟩
              obtain ⟨ad, e1, e2, e3, e4⟩ := h6 h0
              refine ⟨ad, e1, e2, hfz _ e3, fun j p hp => ?_⟩
              obtain ⟨v, q1, q2⟩ := e4 j p hp
              refine ⟨v, q1, ih ?_ q2⟩
              obtain ⟨x, hx, hp'⟩ := List.mem_flatMap.1 (List.mem_of_getElem? hp)
              exact bels_cells (PV.bels_iff.1 hb x hx) p hp'
            | fptr cs off =>
              simp only [VR] at k ⊢
              obtain ⟨ad, e1, e2, e3, e4⟩ := k
              exact ⟨ad, e1, e2, hfz _ e3, fun j p hp => let ⟨q0, v, q1, q2⟩ := e4 j p hp; ⟨q0, v, q1, ih q0 q2⟩⟩
            | own id ver off len => simp [PV.bel] at hb
            | ptr id ver i off => simp [PV.bel] at hb
            | fn f caps =>
              simp only [VR, PV.bel] at k hb ⊢
              obtain ⟨cs, h1, h2, h3⟩ := k
              exact ⟨cs, h1, h2, fun j p v hp hv => ih (PV.bels_iff.1 hb p (List.mem_of_getElem? hp)) (h3 j p v hp hv)⟩
        exact key hp0 hm⟩
    | false =>
      simp only [Bool.false_eq_true, if_false] at ha
      obtain ⟨d, ha⟩ := ha
      obtain ⟨k1, k2⟩ := mapO_spec ha
      refine ⟨by rw [k1]; exact hr.1, fun j p v hp hv => ?_⟩
      obtain ⟨x, e1, e2⟩ := k2 j p hp
      have := dfr_sound hst (hr.2 j x v e1 hv) e2
      simpa [G.none, H] using this
  refine (h ⟨[], [], g.w, H⟩ vs rfl (St.empty hH) hr1).mono ?_
  rintro e w' ⟨v, q, τ, ρτ, rfl, t1, t2, t3, t4⟩
  have old : ∀ b, b < g.w.heap.size → w'.heap[b]? = g.w.heap[b]? := fun b hb => t2.block b hb (fun i hi => by simp at hi)
  have new : ∀ (i b : Nat), ρτ[i]? = some (some b) → g.w.heap.size ≤ b := by
    intro i b hi
    rcases t2.own i b hi with h | ⟨j, hj⟩
    · exact h
    · simp at hj
  have hlenρ : ρτ.length = τ.length := t1.len
  have hρ2 : ∀ i, i < τ.length → (g.ρ ++ ρτ)[i + g.σ.length]? = ρτ[i]? := by
    intro i hi
    rw [List.getElem?_append_right (by rw [hst.len]; omega), hst.len, Nat.add_sub_cancel]
  have hσ2 : ∀ (i : Nat) sz es ver, τ[i]? = some (.row sz es ver) → (g.σ ++ τ.map (AObj.sh g.σ.length))[i + g.σ.length]? = some (.row sz (PV.shs g.σ.length es) ver) := by
    intro i sz es ver hi
    rw [List.getElem?_append_right (by omega), Nat.add_sub_cancel, List.getElem?_map, hi]; rfl
  have hstep : Step g ⟨g.σ ++ τ.map (AObj.sh g.σ.length), g.ρ ++ ρτ, w', g.h⟩ := by
    refine ⟨rfl, t2.os, t2.tape, t2.output, t2.size, fun b hb _ => old b hb, fun i b hi => ?_, fun i sz es ver ho => ?_⟩
    · rcases Nat.lt_or_ge i g.ρ.length with h | h
      · rw [List.getElem?_append_left h] at hi; exact .inr ⟨i, hi⟩
      · rw [List.getElem?_append_right h] at hi; exact .inl (new _ _ hi)
    · have hi : i < g.σ.length := (List.getElem?_eq_some_iff.1 ho).1
      refine ⟨es, ver, by rw [List.getElem?_append_left hi]; exact ho, Nat.le_refl _, fun _ => ⟨Nat.le_refl _, by rw [List.getElem?_append_left (by rw [hst.len]; exact hi)], fun b hb => ?_⟩⟩
      unfold blockSize
      rw [show (G.w ⟨g.σ ++ τ.map (AObj.sh g.σ.length), g.ρ ++ ρτ, w', g.h⟩) = w' from rfl, old b (hst.block_lt hb)]
  have hfz : full = true → ∀ b, G.frz ⟨τ, ρτ, w', H⟩ b → G.frz ⟨g.σ ++ τ.map (AObj.sh g.σ.length), g.ρ ++ ρτ, w', g.h⟩ b := by
    intro hf b hb
    have hbH := hb.2.2
    simp only [H, hf, if_true, List.mem_append, not_or] at hbH
    refine ⟨hb.1, fun i hi => ?_, hbH.1⟩
    rcases Nat.lt_or_ge i g.ρ.length with h | h
    · rw [List.getElem?_append_left h] at hi; exact hbH.2 ((hmem b).2 ⟨i, hi⟩)
    · rw [List.getElem?_append_right h] at hi; exact hb.2.1 _ hi
  have up : ∀ {p : PV} {c : Value}, (full = false → p.nl = true) → R ⟨τ, ρτ, w', H⟩ p c → R ⟨g.σ ++ τ.map (AObj.sh g.σ.length), g.ρ ++ ρτ, w', g.h⟩ (p.sh g.σ.length) c :=
    fun hn ⟨m, hm⟩ => ⟨m, VR.sh (g1 := ⟨τ, ρτ, w', H⟩) (g2 := ⟨g.σ ++ τ.map (AObj.sh g.σ.length), g.ρ ++ ρτ, w', g.h⟩) hσ2 hρ2 rfl hfz hn hm⟩
  refine ⟨v, q.sh g.σ.length, _, g.ρ ++ ρτ, rfl, ⟨hst.hidS hstep, by simp [hst.len, hlenρ], fun i j b hi hj => ?_, fun i sz es ver ho => ?_⟩, hstep, up (fun e => (hq e _ _ t4).1) t3, q, τ, t4, rfl, rfl⟩
  · simp only at hi hj
    rcases Nat.lt_or_ge i g.ρ.length with h1 | h1 <;> rcases Nat.lt_or_ge j g.ρ.length with h2 | h2
    · rw [List.getElem?_append_left h1] at hi; rw [List.getElem?_append_left h2] at hj; exact hst.inj i j b hi hj
    · rw [List.getElem?_append_left h1] at hi; rw [List.getElem?_append_right h2] at hj
      have := hst.block_lt hi; have := new _ _ hj; omega
    · rw [List.getElem?_append_right h1] at hi; rw [List.getElem?_append_left h2] at hj
      have := hst.block_lt hj; have := new _ _ hi; omega
    · rw [List.getElem?_append_right h1] at hi; rw [List.getElem?_append_right h2] at hj
      have := t1.inj _ _ b hi hj; omega
  · simp only at ho
    rcases Nat.lt_or_ge i g.σ.length with hi | hi
    · rw [List.getElem?_append_left hi] at ho
      rcases hst.obj i sz es ver ho with ⟨b, cs, e, fr, h1, h2, h3, h4, h5, h6⟩ | ⟨h1, h2⟩
      · exact .inl ⟨b, cs, e, fr, by show (g.ρ ++ _)[i]? = _; rw [List.getElem?_append_left (by rw [hst.len]; exact hi)]; exact h1, by show w'.heap[b]? = _; rw [old b (hst.block_lt h1)]; exact h2, h3, h4, h5,
          fun j p hp => let ⟨v, q1, q2⟩ := h6 j p hp; ⟨v, q1, q2.step hstep⟩⟩
      · exact .inr ⟨by show (g.ρ ++ _)[i]? = _; rw [List.getElem?_append_left (by rw [hst.len]; exact hi)]; exact h1, h2⟩
    · rw [List.getElem?_append_right hi, List.getElem?_map] at ho
      cases hto : τ[i - g.σ.length]? with
      | none => rw [hto] at ho; simp at ho
      | some o =>
        obtain ⟨sz0, es0, ver0⟩ := o
        rw [hto] at ho; simp [AObj.sh] at ho; obtain ⟨rfl, rfl, rfl⟩ := ho
        have hti : i - g.σ.length < τ.length := (List.getElem?_eq_some_iff.1 hto).1
        have hi2 : (g.ρ ++ ρτ)[i]? = ρτ[i - g.σ.length]? := by
          have := hρ2 _ hti
          rwa [Nat.sub_add_cancel hi] at this
        have hnl : full = false → ∀ p ∈ es0, p.nl = true := by
          intro e p hp
          have := (hq e _ _ t4).2 _ (List.mem_of_getElem? hto)
          simp only [AObj.nl] at this
          exact PV.nls_iff.1 this p hp
        rcases t1.obj _ _ _ _ hto with ⟨b, cs, e, fr, h1, h2, h3, h4, h5, h6⟩ | ⟨h1, h2⟩
        · refine .inl ⟨b, cs, e, fr, by show (g.ρ ++ _)[i]? = _; rw [hi2]; exact h1, h2, h3, fun x hx => ?_, by rw [PV.shs_map]; simpa using h5, fun j p hp => ?_⟩
          · rw [PV.shs_map] at hx
            obtain ⟨y, hy, rfl⟩ := List.mem_map.1 hx
            rw [PV.sh_cells]; simpa using h4 y hy
          · have : (PV.shs g.σ.length es0).flatMap PV.cells = (es0.flatMap PV.cells).map (PV.sh g.σ.length) := by
              rw [PV.shs_map, List.flatMap_map, List.map_flatMap]
              congr 1; funext x; exact PV.sh_cells _ x
            rw [this, List.getElem?_map] at hp
            cases hq0 : (es0.flatMap PV.cells)[j]? with
            | none => rw [hq0] at hp; simp at hp
            | some q0 =>
              rw [hq0] at hp; simp at hp; subst hp
              obtain ⟨u, k1, k2⟩ := h6 j q0 hq0
              refine ⟨u, k1, up (fun e => ?_) k2⟩
              obtain ⟨x, hx, hx'⟩ := List.mem_flatMap.1 (List.mem_of_getElem? hq0)
              have hxn := hnl e x hx
              cases x with
              | agg ps => simp only [PV.nl] at hxn; exact PV.nls_iff.1 hxn q0 hx'
              | _ => simp only [PV.cells, List.mem_singleton] at hx'; subst hx'; exact hxn
        · exact .inr ⟨by show (g.ρ ++ _)[i]? = _; rw [hi2]; exact h1, by rw [h2]; rfl⟩

end Aw
end Go.Proofs.Ytegjfjckijmgcaa
