/- Regions whose order is open: the rule. -/
import Derived.Test.YtoliadfdklfmfaaAw14
set_option linter.unusedVariables false
set_option linter.unusedSimpArgs false
namespace Go.Proofs.Ytoliadfdklfmfaa
namespace Aw

/-! ### Allocations that run ahead of their place -/
def AIn.isAl (x : AIn) : Bool := match x.dst, x.s, x.g with
  | some _, .op (.alloc _), none => true
  | _, _, _ => false
theorem AIn.isAl_eq {x : AIn} (h : x.isAl = true) : ∃ t z, x = ⟨some t, .op (.alloc z), none⟩ := by
  obtain ⟨dst, s, g⟩ := x
  unfold AIn.isAl at h
  split at h
  · rename_i t z e1 e2 e3
    simp only at e1 e2 e3
    exact ⟨t, z, by rw [e1, e2, e3]⟩
  · cases h

/-- Like Step, without the blocks that are kept. -/
structure StepV (g g' : G) : Prop where
  frz : ∀ b, g.frz b → g'.frz b
  cell : ∀ a : Addr, g.frz a.block → g'.w.cell? a = g.w.cell? a
  obj : ∀ (i : Nat) sz es ver, g.σ[i]? = some (.row sz es ver) → ∃ es' ver', g'.σ[i]? = some (.row sz es' ver') ∧ ver ≤ ver' ∧
    (ver = ver' → es.length ≤ es'.length ∧ g'.ρ[i]? = g.ρ[i]? ∧ ∀ b, g.ρ[i]? = some (some b) → blockSize g'.w b = blockSize g.w b)

theorem VR.stepV {g g' : G} (h : StepV g g') : ∀ {n : Nat} {p : PV} {c : Value}, VR g n p c → VR g' n p c
  | 0, _, _, k => k.elim
  | n + 1, p, c, k => by
    have ih := @VR.stepV g g' h n
    cases p with
    | any => trivial
    | val v => exact k
    | agg ps =>
      simp only [VR] at k ⊢
      obtain ⟨cs, h1, h2, h3⟩ := k
      exact ⟨cs, h1, h2, fun j p v hp hv => ih (h3 j p v hp hv)⟩
    | tup ps =>
      simp only [VR] at k ⊢
      obtain ⟨cs, h1, h2, h3⟩ := k
      exact ⟨cs, h1, h2, fun j p v hp hv => ih (h3 j p v hp hv)⟩
    | list sz xs ex =>
      simp only [VR] at k ⊢
      obtain ⟨a, cap, h1, h2, h3, h4, h5, h6⟩ := k
      refine ⟨a, cap, h1, h2, h3, h4, h5, fun h0 => ?_⟩
      obtain ⟨ad, e1, e2, e3, e4⟩ := h6 h0
      exact ⟨ad, e1, e2, h.frz _ e3, fun j p hp => let ⟨v, q1, q2⟩ := e4 j p hp; ⟨v, (h.cell (ad.add j) (by rw [addr_add_block]; exact e3)).trans q1, ih q2⟩⟩
    | tl sz xs =>
      simp only [VR] at k ⊢
      obtain ⟨a, cap, h1, h2, h3, h6⟩ := k
      refine ⟨a, cap, h1, h2, h3, fun h0 => ?_⟩
      obtain ⟨ad, e1, e2, e3, e4⟩ := h6 h0
      exact ⟨ad, e1, e2, h.frz _ e3, fun j p hp => let ⟨v, q1, q2⟩ := e4 j p hp; ⟨v, (h.cell (ad.add j) (by rw [addr_add_block]; exact e3)).trans q1, ih q2⟩⟩
    | fptr cs off =>
      simp only [VR] at k ⊢
      obtain ⟨ad, e1, e2, e3, e4⟩ := k
      exact ⟨ad, e1, e2, h.frz _ e3, fun j p hp => let ⟨q0, v, q1, q2⟩ := e4 j p hp; ⟨q0, v, (h.cell (ad.add j) (by rw [addr_add_block]; exact e3)).trans q1, ih q2⟩⟩
    | own id ver off len =>
      simp only [VR] at k ⊢
      obtain ⟨a, cap, q1, q2, sz, es, v1, h1, h2, h3⟩ := k
      obtain ⟨es', v2, k1, k2, k3⟩ := h.obj id sz es v1 h1
      refine ⟨a, cap, q1, q2, sz, es', v2, k1, Nat.le_trans h2 k2, fun e => ?_⟩
      obtain ⟨q3, q4⟩ := h3 (by omega)
      obtain ⟨r1, r2, r3⟩ := k3 (by omega)
      refine ⟨by omega, ?_⟩
      rw [r2]
      cases hb : g.ρ[id]? with
      | none => simp only [hb] at q4 ⊢; exact q4
      | some o =>
        cases o with
        | none => simp only [hb] at q4 ⊢; exact q4
        | some b =>
          simp only [hb] at q4 ⊢
          obtain ⟨q5, s, q6, q7⟩ := q4
          exact ⟨q5, s, (r3 b hb).trans q6, q7⟩
    | ptr id ver i off =>
      simp only [VR] at k ⊢
      obtain ⟨ad, q0, sz, es, v1, h1, h2, h3⟩ := k
      obtain ⟨es', v2, k1, k2, k3⟩ := h.obj id sz es v1 h1
      refine ⟨ad, q0, sz, es', v2, k1, Nat.le_trans h2 k2, fun e => ?_⟩
      obtain ⟨q1, b, q2, q3⟩ := h3 (by omega)
      obtain ⟨r1, r2, r3⟩ := k3 (by omega)
      exact ⟨by omega, b, r2.trans q2, q3⟩
    | fn f caps =>
      simp only [VR] at k ⊢
      obtain ⟨cs, h1, h2, h3⟩ := k
      exact ⟨cs, h1, h2, fun j p v hp hv => ih (h3 j p v hp hv)⟩
theorem R.stepV {g g' : G} (h : StepV g g') {p : PV} {c : Value} (k : R g p c) : R g' p c := let ⟨n, hn⟩ := k; ⟨n, VR.stepV h hn⟩

/-- The frame and the state stand for the machine's; some blocks are there that nobody knows of yet. -/
def RelH (g0 : G) (X : List Nat) (fr : List PV) (σ : List AObj) (a : Act) (w : World) : Prop :=
  ∃ ρ, St ⟨σ, ρ, w, g0.h ++ X⟩ ∧ Step g0 ⟨σ, ρ, w, g0.h⟩ ∧ FR ⟨σ, ρ, w, g0.h ++ X⟩ fr a ∧ ∀ b ∈ X, g0.w.heap.size ≤ b ∧ b ∉ g0.h
theorem RelH.nil {g0 : G} {fr : List PV} {σ : List AObj} {a : Act} {w : World} : RelH g0 [] fr σ a w ↔ Rel g0 fr σ a w := by
  unfold RelH Rel
  simp
theorem RelH.use {g0 : G} {X : List Nat} {fr : List PV} {σ : List AObj} {a : Act} {w : World} (h : RelH g0 X fr σ a w) :
    ∃ G, Rel G fr σ a w ∧ ∀ fr' σ' a' w', Rel G fr' σ' a' w' → RelH g0 X fr' σ' a' w' ∧ ∀ b ∈ X, w'.heap[b]? = w.heap[b]? := by
  obtain ⟨ρ, hst, hs, hf, hx⟩ := h
  refine ⟨⟨σ, ρ, w, g0.h ++ X⟩, ⟨ρ, hst, Step.refl _, hf⟩, ?_⟩
  rintro fr' σ' a' w' ⟨ρ', k1, k2, k3⟩
  have k4 : Step ⟨σ, ρ, w, g0.h⟩ ⟨σ', ρ', w', g0.h⟩ := ⟨rfl, k2.os, k2.tape, k2.output, k2.size, k2.block, k2.own, k2.obj⟩
  exact ⟨⟨ρ', k1, hs.trans k4, k3, hx⟩, fun b hb => k2.block b (hst.hid.1 b (List.mem_append_right _ hb)) (fun i hi => hst.hid.2 i b hi (List.mem_append_right _ hb))⟩
/-- A new block that nobody knows of. -/
theorem St.hide {σ : List AObj} {ρ : List (Option Nat)} {w w' : World} {h : List Nat} {o : Obj} (hs : St ⟨σ, ρ, w, h⟩) (hp : Pushed w w' o) :
    St ⟨σ, ρ, w', h ++ [w.heap.size]⟩ ∧ StepV ⟨σ, ρ, w, h⟩ ⟨σ, ρ, w', h ++ [w.heap.size]⟩ := by
  have hsz : w'.heap.size = w.heap.size + 1 := by rw [hp.heap]; simp
  have hv : StepV ⟨σ, ρ, w, h⟩ ⟨σ, ρ, w', h ++ [w.heap.size]⟩ := by
    refine ⟨fun b hb => ⟨?_, hb.2.1, ?_⟩, fun a ha => ?_, fun i sz es ver ho => ⟨es, ver, ho, Nat.le_refl _, fun _ => ⟨Nat.le_refl _, rfl, fun b hb => ?_⟩⟩⟩
    · have := hb.1; simp only at this ⊢; omega
    · intro hm
      rcases List.mem_append.1 hm with hm | hm
      · exact hb.2.2 hm
      · have := hb.1; simp at hm this; omega
    · unfold World.cell?
      simp only
      rw [hp.old ha.1]
    · unfold blockSize
      simp only
      rw [hp.old (hs.block_lt hb)]
  refine ⟨⟨⟨fun b hb => ?_, fun i b hi hm => ?_⟩, hs.len, hs.inj, fun i sz es ver ho => ?_, fun i b sz es ver ho hver hb => ?_⟩, hv⟩
  · simp only at hb ⊢
    rcases List.mem_append.1 hb with hb | hb
    · have := hs.hid.1 b hb; simp only at this; omega
    · simp at hb; omega
  · rcases List.mem_append.1 hm with hm | hm
    · exact hs.hid.2 i b hi hm
    · have := hs.block_lt hi; simp at hm this; omega
  · rcases hs.obj i sz es ver ho with ⟨b, cs, e, f, h1, h2, h3, h4, h5, h6⟩ | h1
    · refine .inl ⟨b, cs, e, f, h1, ?_, h3, h4, h5, fun j p hj => ?_⟩
      · have hlt := hs.block_lt h1
        exact (hp.old hlt).trans h2
      · obtain ⟨v, k1, k2⟩ := h6 j p hj
        exact ⟨v, k1, k2.stepV hv⟩
    · exact .inr h1
  · obtain ⟨cs, f, h1⟩ := hs.ty i b sz es ver ho hver hb
    have hlt := hs.block_lt hb
    exact ⟨cs, f, (hp.old hlt).trans h1⟩
theorem RelH.early {P : Program} {ops : Array Oper} {o : Oper} {x : AIn} {t : Nat} {z : Value} {g0 : G} {X : List Nat} {fr : List PV} {σ : List AObj} {a : Act} {w : World} {Q : Exit → Act → World → Prop} {N : Act → World → Prop}
    (hx : x = ⟨some t, .op (.alloc z), none⟩) (hc : chkIn P ops o x = true) (h : RelH g0 X fr σ a w)
    (hN : ∀ a' w' ty, RelH g0 (X ++ [w.heap.size]) (fr.set t (.val (.pointer (some ⟨w.heap.size, 0, none⟩)))) σ a' w' → (∀ b, b < w.heap.size → w'.heap[b]? = w.heap[b]?) → w'.heap[w.heap.size]? = some (.cells z.cells ty (0, 0)) → N a' w') :
    if Region.wanted o (yielded ops a.tmps) then o.wp P a w N Q else N (a.put o.dst undef) w := by
  subst hx
  simp only [chkIn, Bool.and_eq_true, decide_eq_true_eq] at hc
  obtain ⟨⟨hd, hg⟩, hs⟩ := hc
  have hgn : o.guard = none := by
    split at hg
    · assumption
    · rename_i h2; cases h2
    · cases hg
  have hw : Region.wanted o (yielded ops a.tmps) = true := by unfold Region.wanted; rw [hgn]
  rw [if_pos hw]
  obtain ⟨T, ho, hz⟩ : ∃ T, o.op = .alloc T ∧ zeroIs P T z = true := by
    unfold chkI at hs
    split at hs <;> first | (rename_i h1 h2; injection h2 with h2; subst h2; exact ⟨_, h1, hs⟩) | skip
    all_goals first | (rename_i h1; cases h1; done) | (rename_i h1 h2; cases h2; done) | (cases hs; done) | skip
  obtain ⟨ρ, hst, hstep, hf, hX⟩ := h
  have hrun : (execOp a.eval o).run P w = .ok (.value (.pointer (some ⟨w.heap.size, 0, none⟩))) { w with heap := w.heap.push (.cells z.cells T) } := by
    unfold execOp
    simp [ho, Instr.alloc, zeroIs_run hz, newVar, newRow]
  unfold Oper.wp
  rw [hrun, Oper.upon_value, hd]
  have hp : Pushed w { w with heap := w.heap.push (.cells z.cells T) } (.cells z.cells T (0, 0)) := ⟨rfl, rfl, rfl, rfl⟩
  obtain ⟨k1, k2⟩ := hst.hide hp
  have hfr : Step ⟨σ, ρ, w, g0.h⟩ ⟨σ, ρ, { w with heap := w.heap.push (.cells z.cells T) }, g0.h⟩ := by
    refine ⟨rfl, rfl, rfl, rfl, by simp, fun b hb _ => hp.old hb, fun i b hb => .inr ⟨i, hb⟩, fun i sz es ver ho => ⟨es, ver, ho, Nat.le_refl _, fun _ => ⟨Nat.le_refl _, rfl, fun b hb => ?_⟩⟩⟩
    unfold blockSize
    rw [hp.old (hst.block_lt hb)]
  refine hN _ _ T ⟨ρ, ?_, hstep.trans hfr, ?_, fun b hb => ?_⟩ (fun b hb => hp.old hb) hp.new
  · rw [← List.append_assoc]; exact k1
  · rw [← List.append_assoc]
    have hf2 : FR ⟨σ, ρ, { w with heap := w.heap.push (.cells z.cells T) }, (g0.h ++ X) ++ [w.heap.size]⟩ fr a := ⟨hf.defers, hf.size, fun i p hp => let ⟨v, h1, h2⟩ := hf.slot i p hp; ⟨v, h1, h2.stepV k2⟩⟩
    exact hf2.put (some t) (R_val.2 rfl)
  · rcases List.mem_append.1 hb with hb | hb
    · exact hX b hb
    · simp at hb; subst hb
      refine ⟨hstep.size, fun hm => ?_⟩
      have := hst.hid.1 w.heap.size (List.mem_append_left _ hm)
      simp at this
/-- The order comes to an allocation that has run. -/
theorem RelH.absorb {g0 : G} {X Y : List Nat} {fr : List PV} {σ : List AObj} {a : Act} {w : World} (h : RelH g0 X fr σ a w) {b : Nat} (hb : b ∈ X) {t : Nat} {z : Value} {ty : TypeId}
    (hc : w.heap[b]? = some (.cells z.cells ty (0, 0))) (ht : fr[t]? = some (.val (.pointer (some ⟨b, 0, none⟩))) ∨ fr.length ≤ t) (hY : ∀ c, c ∈ Y ↔ c ∈ X ∧ c ≠ b) :
    RelH g0 Y (fr.set t (.ptr σ.length 0 0 0)) (σ ++ [.row (pvOf z).cells.length [pvOf z] 0]) a w := by
  obtain ⟨ρ, hst, hstep, hf, hX⟩ := h
  have hlen : ρ.length = σ.length := hst.len
  have hbn : ∀ i : Nat, ρ[i]? ≠ some (some b) := fun i hi => hst.hid.2 i b hi (List.mem_append_right _ hb)
  have old : ∀ {i : Nat} {r : AObj}, σ[i]? = some r → (σ ++ [.row (pvOf z).cells.length [pvOf z] 0])[i]? = some r ∧ (ρ ++ [some b])[i]? = ρ[i]? := fun {i r} hi => by
    have hl : i < σ.length := (List.getElem?_eq_some_iff.1 hi).1
    exact ⟨by rw [List.getElem?_append_left hl]; exact hi, List.getElem?_append_left (by omega)⟩
  have new : ∀ {i c : Nat}, (ρ ++ [some b])[i]? = some (some c) → ρ[i]? = some (some c) ∨ (i = σ.length ∧ c = b) := fun {i c} hi => by
    rcases Nat.lt_or_ge i ρ.length with hl | hl
    · rw [List.getElem?_append_left hl] at hi; exact .inl hi
    · rw [List.getElem?_append_right hl] at hi
      cases hk : i - ρ.length with
      | zero => rw [hk] at hi; simp at hi; exact .inr ⟨by omega, hi.symm⟩
      | succ k => rw [hk] at hi; simp at hi
  have hmem : ∀ c, c ∈ g0.h ++ Y → c ∈ g0.h ++ X ∧ c ≠ b := fun c hm => by
    rcases List.mem_append.1 hm with hm | hm
    · exact ⟨List.mem_append_left _ hm, fun e => (hX b hb).2 (e ▸ hm)⟩
    · exact ⟨List.mem_append_right _ ((hY c).1 hm).1, ((hY c).1 hm).2⟩
  have hv : StepV ⟨σ, ρ, w, g0.h ++ X⟩ ⟨σ ++ [.row (pvOf z).cells.length [pvOf z] 0], ρ ++ [some b], w, g0.h ++ Y⟩ := by
    refine ⟨fun c hz => ⟨hz.1, fun i hi => ?_, fun hm => hz.2.2 (hmem c hm).1⟩, fun a _ => rfl, fun i sz es ver ho => ⟨es, ver, (old ho).1, Nat.le_refl _, fun _ => ⟨Nat.le_refl _, (old ho).2, fun _ _ => rfl⟩⟩⟩
    rcases new hi with hi | ⟨_, e⟩
    · exact hz.2.1 i hi
    · exact hz.2.2 (List.mem_append_right _ (e ▸ hb))
  refine ⟨ρ ++ [some b], ⟨⟨fun c hm => hst.hid.1 c (hmem c hm).1, fun i c hi hm => ?_⟩, by simp [hlen], fun i j c hi hj => ?_, fun i sz es ver ho => ?_, fun i c sz es ver ho hver hi => ?_⟩, ?_, ?_, fun c hm => hX c ((hY c).1 hm).1⟩
  · rcases new hi with hi | ⟨_, rfl⟩
    · exact hst.hid.2 i c hi (hmem c hm).1
    · exact (hmem _ hm).2 rfl
  · rcases new hi with hi | ⟨hi1, hi2⟩ <;> rcases new hj with hj | ⟨hj1, hj2⟩
    · exact hst.inj i j c hi hj
    · exact absurd (hj2 ▸ hi) (hbn i)
    · exact absurd (hi2 ▸ hj) (hbn j)
    · omega
  · rcases Nat.lt_or_ge i σ.length with hl | hl
    · have ho' : σ[i]? = some (.row sz es ver) := by simp only at ho; rwa [List.getElem?_append_left hl] at ho
      rcases hst.obj i sz es ver ho' with ⟨c, cs, e, f, h1, h2, h3, h4, h5, h6⟩ | h1
      · exact .inl ⟨c, cs, e, f, (old ho').2.trans h1, h2, h3, h4, h5, fun j p hj => let ⟨v, k1, k2⟩ := h6 j p hj; ⟨v, k1, k2.stepV hv⟩⟩
      · exact .inr ⟨(old ho').2.trans h1.1, h1.2⟩
    · simp only at ho
      rw [List.getElem?_append_right hl] at ho
      cases hk : i - σ.length with
      | zero =>
        rw [hk] at ho; simp at ho
        obtain ⟨rfl, rfl, rfl⟩ := ho
        refine .inl ⟨b, z.cells, ty, (0, 0), ?_, hc, fun j _ => by simp, fun x hx => by simp at hx; subst hx; rfl, by rw [pvOf_cells]; simp, fun j p hj => ?_⟩
        · show (ρ ++ [some b])[i]? = _
          have : i = ρ.length := by omega
          rw [this]; simp
        · simp only [List.flatMap_cons, List.flatMap_nil, List.append_nil] at hj
          rw [pvOf_cells] at hj
          simp at hj
          obtain ⟨v, h1, rfl⟩ := hj
          exact ⟨v, by simpa using h1, R_val.2 rfl⟩
      | succ k => rw [hk] at ho; simp at ho
  · rcases Nat.lt_or_ge i σ.length with hl | hl
    · have ho' : σ[i]? = some (.row sz es ver) := by simp only at ho; rwa [List.getElem?_append_left hl] at ho
      exact hst.ty i c sz es ver ho' hver ((old ho').2.symm.trans hi)
    · simp only at ho
      rw [List.getElem?_append_right hl] at ho
      cases hk : i - σ.length with
      | zero => rw [hk] at ho; simp at ho; omega
      | succ k => rw [hk] at ho; simp at ho
  · refine ⟨rfl, hstep.os, hstep.tape, hstep.output, hstep.size, hstep.block, fun i c hi => ?_, fun i sz es ver ho => ?_⟩
    · rcases new hi with hi | ⟨_, rfl⟩
      · exact hstep.own i c hi
      · exact .inl (hX _ hb).1
    · obtain ⟨es', ver', h1, h2, h3⟩ := hstep.obj i sz es ver ho
      exact ⟨es', ver', (old h1).1, h2, fun e => let ⟨r1, r2, r3⟩ := h3 e; ⟨r1, (old h1).2.trans r2, r3⟩⟩
  · refine ⟨hf.defers, by simp [hf.size], fun i q hq => ?_⟩
    rcases set_get? hq with ⟨rfl, rfl, hl⟩ | ⟨h1, h2⟩
    · rcases ht with ht | ht
      · obtain ⟨v, k1, k2⟩ := hf.slot _ _ ht
        rw [R_val] at k2; subst k2
        refine ⟨_, k1, R_ptr.2 ⟨⟨b, 0, none⟩, rfl, (pvOf z).cells.length, [pvOf z], 0, by simp, Nat.le_refl _, fun _ => ⟨by simp, b, ?_, by simp⟩⟩⟩
        show (ρ ++ [some b])[σ.length]? = _
        rw [← hlen]; simp
      · omega
    · obtain ⟨v, k1, k2⟩ := hf.slot i q h2
      exact ⟨v, k1, k2.stepV hv⟩

/-- An instruction of an open region: its number among the operations; the numbers of those that are asked again behind it. -/
structure DIn where
  idx : Nat
  x : AIn
  rc : List Nat := []

/-- It gives the same at the new state. -/
def rc1 (fr : List PV) (σ : List AObj) (y : AIn) : Prop :=
  match guardA fr y.g with
  | some true => match y.s, y.dst with
    | .op i, some t => match fr[t]? with
      | some p => ai fr σ i = some (p, σ)
      | none => False
    | _, _ => False
  | some false => True
  | none => False
def rcs (fr : List PV) (σ : List AObj) : List DIn → List Nat → Prop
  | [], _ => True
  | y :: h, rc => (if rc.contains y.idx then rc1 fr σ y.x else True) ∧ rcs fr σ h rc

/-- Instructions of an open region, in one order that its edges allow (h: those behind us). -/
def ADSeq (P : Program) : List DIn → List DIn → (List PV → List AObj → Prop) → List PV → List AObj → Prop
  | [], _, K, fr, σ => K fr σ
  | d :: ds, h, K, fr, σ =>
    match guardA fr d.x.g with
    | some true =>
      match d.x.s with
      | .op i => match ai fr σ i with
        | some (p, σ') => (if i.eff then rcs fr σ' h d.rc else True) ∧ ADSeq P ds (d :: h) K (setD fr d.x.dst p) σ'
        | none => False
      | .call f args false => ACallV P (aev fr f) (args.map (aev fr)) σ fun p σ' => rcs fr σ' h d.rc ∧ ADSeq P ds (d :: h) K (setD fr d.x.dst p) σ'
      | .call f args true => ∃ v, (∀ τ, ACallV P (aev fr f) (args.map (aev fr)) τ fun p τ' => p = v ∧ τ' = τ) ∧ ADSeq P ds (d :: h) K (setD fr d.x.dst v) σ
    | some false => ADSeq P ds (d :: h) K (setD fr d.x.dst (.val undef)) σ
    | none => False

theorem rcs_mem {fr : List PV} {σ : List AObj} {rc : List Nat} : ∀ {h : List DIn} {y : DIn}, rcs fr σ h rc → y ∈ h → y.idx ∈ rc → rc1 fr σ y.x
  | [], _, _, hy, _ => by simp at hy
  | z :: h, y, hr, hy, hi => by
    rcases List.mem_cons.1 hy with rfl | hy
    · have := hr.1; rwa [if_pos (by simpa using hi)] at this
    · exact rcs_mem hr.2 hy hi

structure Rec where
  d : DIn
  v : PV
def frOf (fr0 : List PV) (H : List Rec) : List PV := H.foldl (fun fr r => setD fr r.d.x.dst r.v) fr0

theorem setD_length (fr : List PV) (d : Option Nat) (p : PV) : (setD fr d p).length = fr.length := by cases d <;> simp [setD]
theorem setD_get_ne {fr : List PV} {d : Option Nat} {p : PV} {t : Nat} (h : d ≠ some t) : (setD fr d p)[t]? = fr[t]? := by
  cases d with
  | none => rfl
  | some d => simp only [setD]; rw [List.getElem?_set_ne (fun e => h (by rw [e]))]
theorem setD_get_eq {fr : List PV} {p : PV} {t : Nat} (h : t < fr.length) : (setD fr (some t) p)[t]? = some p := by simp [setD, h]
theorem frOf_length (fr0 : List PV) (H : List Rec) : (frOf fr0 H).length = fr0.length := by
  unfold frOf
  induction H generalizing fr0 with
  | nil => rfl
  | cons r H ih => rw [List.foldl_cons, ih, setD_length]
theorem frOf_append (fr0 : List PV) (A B : List Rec) : frOf fr0 (A ++ B) = frOf (frOf fr0 A) B := by unfold frOf; rw [List.foldl_append]
/-- A slot is as its last writer left it. -/
theorem frOf_get_congr {fr fr' : List PV} {t : Nat} (h : fr[t]? = fr'[t]?) (hl : fr.length = fr'.length) : ∀ H : List Rec, (frOf fr H)[t]? = (frOf fr' H)[t]? := by
  intro H
  induction H generalizing fr fr' with
  | nil => exact h
  | cons r H ih =>
    refine ih ?_ (by simp [setD_length, hl])
    show (setD fr r.d.x.dst r.v)[t]? = (setD fr' r.d.x.dst r.v)[t]?
    by_cases hd : r.d.x.dst = some t
    · rw [hd]
      rcases Nat.lt_or_ge t fr.length with h1 | h1
      · rw [setD_get_eq h1, setD_get_eq (by omega)]
      · rw [List.getElem?_eq_none (by rw [setD_length]; omega), List.getElem?_eq_none (by rw [setD_length]; omega)]
    · rw [setD_get_ne hd, setD_get_ne hd, h]
theorem frOf_skip {fr : List PV} {t : Nat} {H : List Rec} (h : ∀ r ∈ H, r.d.x.dst ≠ some t) : (frOf fr H)[t]? = fr[t]? := by
  induction H generalizing fr with
  | nil => rfl
  | cons r H ih =>
    have : frOf fr (r :: H) = frOf (setD fr r.d.x.dst r.v) H := rfl
    rw [this, ih fun q hq => h q (List.mem_cons_of_mem _ hq), setD_get_ne (h r (List.mem_cons_self ..))]
/-- Leaving out what does not write a slot leaves the slot. -/
theorem frOf_filter {fr0 : List PV} {t : Nat} {L : Rec → Bool} : ∀ {H : List Rec}, (∀ r ∈ H, r.d.x.dst = some t → L r = true) → (frOf fr0 (H.filter L))[t]? = (frOf fr0 H)[t]? := by
  intro H
  induction H generalizing fr0 with
  | nil => intro _; rfl
  | cons r H ih =>
    intro h
    have ih' := fun fr => ih (fr0 := fr) fun q hq hd => h q (List.mem_cons_of_mem _ hq) hd
    rw [List.filter_cons]
    have e : frOf fr0 (r :: H) = frOf (setD fr0 r.d.x.dst r.v) H := rfl
    split
    · have e2 : frOf fr0 (r :: H.filter L) = frOf (setD fr0 r.d.x.dst r.v) (H.filter L) := rfl
      rw [e, e2]; exact ih' _
    · rename_i hL
      have hne : r.d.x.dst ≠ some t := fun hd => hL (h r (List.mem_cons_self ..) hd)
      rw [e, ih']
      exact (frOf_get_congr (by rw [setD_get_ne hne]) (by rw [setD_length]) H)

/-- Do two instructions name one slot, one of them writing it? -/
def conflict (d e : AIn) : Bool := (match d.dst with | some t => e.reads.contains t || decide (e.dst = some t) | none => false) || (match e.dst with | some t => d.reads.contains t | none => false)

/-- What is asked of an open region. pre: what must stand ahead of an operation. -/
structure DOk (P : Program) (ops : Array Oper) (ds : List DIn) (pre : Nat → Nat → Prop) : Prop where
  lt : ∀ d ∈ ds, d.idx < ops.size
  cover : ∀ i, i < ops.size → ∃ d ∈ ds, d.idx = i
  nodup : (ds.map DIn.idx).Nodup
  chk : ∀ d ∈ ds, ∃ o, ops[d.idx]? = some o ∧ chkIn P ops o d.x = true
  pred : ∀ i k, pre i k → ∃ o e, ops[i]? = some o ∧ e ∈ o.after ∧ Region.binds .any e = true ∧ e.on < i ∧ (e.on = k ∨ pre e.on k)
  edges : ∀ (i : Nat) o, ops[i]? = some o → ∀ e ∈ o.after, Region.binds .any e = true → e.on < i
  conf : ∀ A d B e C, ds = A ++ d :: B ++ e :: C → conflict d.x e.x = true → pre e.idx d.idx
  effs : ∀ A d B e C, ds = A ++ d :: B ++ e :: C → d.x.eff = true → pre e.idx d.idx ∨ e.x.isAl = true
  als : ∀ A d B e C, ds = A ++ d :: B ++ e :: C → d.x.isAl = true → e.x.isAl = true → d.x.dst ≠ e.x.dst
  sens : ∀ A d B e C, ds = A ++ d :: B ++ e :: C → e.x.eff = true → d.x.eff = false → d.x.sens = true → pre e.idx d.idx ∨ (d.idx ∈ e.rc ∧ (∀ q ∈ d :: B, ∀ t, q.x.dst = some t → t ∉ d.x.reads) ∧ ∀ q ∈ B, q.x.dst ≠ d.x.dst)

def LL (listed : Array Bool) (i : Nat) : Bool := listed.getD i false
theorem mem_ready' {ops : Array Oper} {listed : Array Bool} {i : Nat} : i ∈ Region.ready .any ops listed ↔ i < ops.size ∧ listed.getD i true = false ∧ ∃ o, ops[i]? = some o ∧ ∀ e ∈ o.after, Region.binds .any e = true → LL listed e.on = true := by
  simp only [Region.ready, List.mem_filter, List.mem_range, Bool.and_eq_true, Bool.not_eq_true', LL]
  constructor
  · rintro ⟨h1, h2, h3⟩
    refine ⟨h1, h2, ops[i], by simp [h1], fun e he hb => ?_⟩
    rw [Array.getElem?_eq_getElem h1] at h3
    simp only [Option.map_some, Option.getD_some, Array.all_eq_true'] at h3
    have := h3 e he
    simpa [hb] using this
  · rintro ⟨h1, h2, o, h3, h4⟩
    refine ⟨h1, h2, ?_⟩
    rw [h3]
    simp only [Option.map_some, Option.getD_some, Array.all_eq_true']
    intro e he
    cases hb : Region.binds .any e with
    | false => simp
    | true => simpa using h4 e he hb

/-- What is known of those that were taken ahead. -/
def Ahead (P : Program) (fr : List PV) (σ : List AObj) (r : Rec) : Prop :=
  (guardA fr r.d.x.g = some true ∧ ∃ i, r.d.x.s = .op i ∧ ai fr σ i = some (r.v, σ)) ∨ (guardA fr r.d.x.g = some true ∧ ∃ f args, r.d.x.s = .call f args true ∧ ∀ τ, ACallV P (aev fr f) (args.map (aev fr)) τ fun p τ' => p = r.v ∧ τ' = τ) ∨ (guardA fr r.d.x.g = some false ∧ r.v = .val undef)
def Advanced (P : Program) (K : List PV → List AObj → Prop) (ds h : List DIn) (fr : List PV) (σ : List AObj) : Prop :=
  ∃ (H : List Rec) (post : List DIn), ds = H.map Rec.d ++ post ∧ (∀ r ∈ H, r.d.x.eff = false) ∧ (post = [] ∨ ∃ e rest, post = e :: rest ∧ e.x.eff = true) ∧ ADSeq P post ((H.map Rec.d).reverse ++ h) K (frOf fr H) σ ∧
      ∀ A r B, H = A ++ r :: B → Ahead P (frOf fr A) σ r

/-- The instructions that have no effect are taken at once. -/
theorem advance {P : Program} {K : List PV → List AObj → Prop} : ∀ (ds h : List DIn) (fr : List PV) (σ : List AObj), ADSeq P ds h K fr σ → Advanced P K ds h fr σ
  | [], h, fr, σ, hs => ⟨[], [], rfl, fun r hr => by simp at hr, .inl rfl, hs, fun A r B hh => by simp at hh⟩
  | d :: ds, h, fr, σ, hs => by
    by_cases he : d.x.eff = true
    · exact ⟨[], d :: ds, rfl, fun r hr => by simp at hr, .inr ⟨d, ds, rfl, he⟩, hs, fun A r B hh => by simp at hh⟩
    · have he : d.x.eff = false := by simpa using he
      have step : ∀ v, ADSeq P ds (d :: h) K (setD fr d.x.dst v) σ → Ahead P fr σ ⟨d, v⟩ → Advanced P K (d :: ds) h fr σ := by
        intro v hs' hv
        obtain ⟨H, post, h1, h2, h3, h4, h5⟩ := advance ds (d :: h) (setD fr d.x.dst v) σ hs'
        refine ⟨⟨d, v⟩ :: H, post, by simp [h1], fun r hr => ?_, h3, by simp; exact h4, fun A r B hh => ?_⟩
        · rcases List.mem_cons.1 hr with rfl | hr
          · exact he
          · exact h2 r hr
        · cases A with
          | nil => simp at hh; obtain ⟨rfl, rfl⟩ := hh; exact hv
          | cons q A =>
            simp at hh
            obtain ⟨rfl, hh⟩ := hh
            exact h5 A r B hh
      simp only [ADSeq] at hs
      split at hs
      · rename_i hg
        split at hs
        · rename_i i hi
          split at hs
          · rename_i p σ' ha
            have hie : i.eff = false := by simpa [AIn.eff, hi] using he
            have hσ := ai_noeff hie ha
            subst hσ
            exact step p hs.2 (.inl ⟨hg, i, hi, ha⟩)
          · exact hs.elim
        · rename_i f args hc
          simp [AIn.eff, hc] at he
        · rename_i f args hc
          obtain ⟨v, h1, h2⟩ := hs
          exact step v h2 (.inr (.inl ⟨hg, f, args, hc, h1⟩))
      · rename_i hg
        exact step (.val undef) hs (.inr (.inr ⟨hg, rfl⟩))
      · exact hs.elim

theorem guard_congr {fr fr' : List PV} {x : AIn} (h : ∀ t ∈ x.reads, fr[t]? = fr'[t]?) : guardA fr x.g = guardA fr' x.g := by
  cases hg : x.g with
  | none => rfl
  | some q =>
    obtain ⟨t, w⟩ := q
    simp only [guardA]
    rw [h t (by simp [AIn.reads, hg])]
theorem step_congr {fr fr' : List PV} {x : AIn} (h : ∀ t ∈ x.reads, fr[t]? = fr'[t]?) : ∀ t ∈ x.s.slots, fr[t]? = fr'[t]? := fun t ht => h t (by simp [AIn.reads, ht])

/-- An allocation that has run ahead of its place: its slot, what it begins with, its block. -/
structure Ear where
  d : DIn
  t : Nat
  z : Value
  b : Nat
def eFr (fr : List PV) (E : List Ear) : List PV := E.foldl (fun fr e => fr.set e.t (.val (.pointer (some ⟨e.b, 0, none⟩)))) fr
theorem eFr_length (fr : List PV) (E : List Ear) : (eFr fr E).length = fr.length := by
  unfold eFr
  induction E generalizing fr with
  | nil => rfl
  | cons e E ih => rw [List.foldl_cons, ih, List.length_set]
theorem eFr_cons (fr : List PV) (e : Ear) (E : List Ear) : eFr fr (e :: E) = eFr (fr.set e.t (.val (.pointer (some ⟨e.b, 0, none⟩)))) E := rfl
theorem eFr_snoc (fr : List PV) (e : Ear) (E : List Ear) : eFr fr (E ++ [e]) = (eFr fr E).set e.t (.val (.pointer (some ⟨e.b, 0, none⟩))) := by unfold eFr; rw [List.foldl_append]; rfl
theorem eFr_ne {t : Nat} : ∀ {E : List Ear} {fr : List PV}, (∀ e ∈ E, e.t ≠ t) → (eFr fr E)[t]? = fr[t]?
  | [], _, _ => rfl
  | e :: E, fr, h => by
    rw [eFr_cons, eFr_ne fun q hq => h q (List.mem_cons_of_mem _ hq), List.getElem?_set_ne (h e (List.mem_cons_self ..))]
theorem eFr_at : ∀ {E : List Ear} {fr : List PV} {e : Ear}, e ∈ E → (E.map Ear.t).Nodup → e.t < fr.length → (eFr fr E)[e.t]? = some (.val (.pointer (some ⟨e.b, 0, none⟩)))
  | [], _, _, h, _, _ => by simp at h
  | q :: E, fr, e, h, hn, hl => by
    rw [List.map_cons, List.nodup_cons] at hn
    rw [eFr_cons]
    rcases List.mem_cons.1 h with rfl | h
    · rw [eFr_ne fun q hq => fun he => hn.1 (by rw [← he]; exact List.mem_map.2 ⟨_, hq, rfl⟩), List.getElem?_set_self hl]
    · exact eFr_at h hn.2 (by rw [List.length_set]; exact hl)
theorem eFr_setD {d : Option Nat} {p : PV} : ∀ {E : List Ear} {fr : List PV}, (∀ e ∈ E, d ≠ some e.t) → eFr (setD fr d p) E = setD (eFr fr E) d p
  | [], _, _ => rfl
  | e :: E, fr, h => by
    rw [eFr_cons, eFr_cons, ← eFr_setD fun q hq => h q (List.mem_cons_of_mem _ hq)]
    cases d with
    | none => rfl
    | some d =>
      have hne : d ≠ e.t := fun he => h e (List.mem_cons_self ..) (by rw [he])
      simp only [setD]
      rw [List.set_comm _ _ hne]
theorem eFr_absorb {E : List Ear} {fr : List PV} {e : Ear} (he : e ∈ E) (hn : (E.map Ear.t).Nodup) (p : PV) : (eFr fr E).set e.t p = eFr (fr.set e.t p) (E.filter fun q => decide (q.t ≠ e.t)) := by
  apply List.ext_getElem?
  intro t
  by_cases ht : e.t = t
  · subst ht
    rw [eFr_ne fun q hq => by rw [List.mem_filter] at hq; simpa using hq.2]
    rcases Nat.lt_or_ge e.t fr.length with hl | hl
    · rw [List.getElem?_set_self (by rw [eFr_length]; exact hl), List.getElem?_set_self hl]
    · rw [List.getElem?_eq_none (by simp [eFr_length]; exact hl), List.getElem?_eq_none (by simp; exact hl)]
  · rw [List.getElem?_set_ne ht]
    rcases Nat.lt_or_ge t fr.length with hl | hl
    · by_cases hq : ∃ q ∈ E, q.t = t
      · obtain ⟨q, hq, rfl⟩ := hq
        rw [eFr_at hq hn hl]
        have hq2 : q ∈ E.filter fun q => decide (q.t ≠ e.t) := List.mem_filter.2 ⟨hq, by simpa using fun h => ht h.symm⟩
        rw [eFr_at hq2 (hn.sublist (List.filter_sublist.map _)) (by simpa using hl)]
      · rw [eFr_ne fun q h1 h2 => hq ⟨q, h1, h2⟩, eFr_ne fun q h1 h2 => hq ⟨q, (List.mem_filter.1 h1).1, h2⟩, List.getElem?_set_ne ht]
    · rw [List.getElem?_eq_none (by rw [eFr_length]; exact hl), List.getElem?_eq_none (by rw [eFr_length, List.length_set]; exact hl)]

/-- What comes next has an effect and has not run. -/
def Pst (listed : Array Bool) (pst : List DIn) : Prop := pst = [] ∨ ∃ e rest, pst = e :: rest ∧ e.x.eff = true ∧ LL listed e.idx = false
/-- The state of a run through an open region. -/
structure Inv (P : Program) (ds : List DIn) (pre : Nat → Nat → Prop) (K : List PV → List AObj → Prop) (g0 : G) (fr0 : List PV) (listed : Array Bool) (a : Act) (w : World) (H : List Rec) (pst : List DIn) (σ : List AObj) (E : List Ear) : Prop where
  split : ds = H.map Rec.d ++ pst
  effs : ∀ r ∈ H, r.d.x.eff = true → LL listed r.d.idx = true
  mem : ∀ i, LL listed i = true → (∃ r ∈ H, r.d.idx = i) ∨ ∃ e ∈ E, e.d.idx = i
  down : ∀ i, LL listed i = true → ∀ k, pre i k → LL listed k = true
  ear : ∀ e ∈ E, e.d ∈ pst ∧ LL listed e.d.idx = true ∧ e.d.x = ⟨some e.t, .op (.alloc e.z), none⟩ ∧ ∃ ty, w.heap[e.b]? = some (.cells e.z.cells ty (0, 0))
  ndb : (E.map Ear.b).Nodup
  ndt : (E.map Ear.t).Nodup
  rel : RelH g0 (E.map Ear.b) (eFr (frOf fr0 (H.filter fun r => LL listed r.d.idx)) E) σ a w
  seq : ADSeq P pst (H.map Rec.d).reverse K (frOf fr0 H) σ
  pend : ∀ A r B, H = A ++ r :: B → LL listed r.d.idx = false → Ahead P (frOf fr0 A) σ r

section
variable {P : Program} {ops : Array Oper} {ds : List DIn} {pre : Nat → Nat → Prop} {K : List PV → List AObj → Prop} {g0 : G} {fr0 : List PV} {listed : Array Bool} {a : Act} {w : World} {H : List Rec} {post : List DIn} {σ : List AObj} {E : List Ear}

theorem conflict_of_write {d e : AIn} {t : Nat} (hd : d.dst = some t) (he : t ∈ e.reads ∨ e.dst = some t) : conflict d e = true := by
  unfold conflict
  rw [hd]
  rcases he with h | h <;> simp [h]
theorem conflict_of_read {d e : AIn} {t : Nat} (he : e.dst = some t) (hd : t ∈ d.reads) : conflict d e = true := by
  unfold conflict
  rw [he]
  simp [hd]

/-- What an operation that was taken ahead reads is, when it runs, as it was then. -/
theorem Inv.reads (hd : DOk P ops ds pre) (hI : Inv P ds pre K g0 fr0 listed a w H post σ E) {A B : List Rec} {r : Rec} (hH : H = A ++ r :: B) (hn : LL listed r.d.idx = false) (hpre : ∀ k, pre r.d.idx k → LL listed k = true) :
    ∀ t, (t ∈ r.d.x.reads ∨ r.d.x.dst = some t) → (frOf fr0 (H.filter fun r => LL listed r.d.idx))[t]? = (frOf fr0 A)[t]? := by
  intro t ht
  have hA : ∀ q ∈ A, q.d.x.dst = some t → LL listed q.d.idx = true := by
    intro q hq hqd
    obtain ⟨A1, A2, rfl⟩ := List.append_of_mem hq
    refine hpre _ (hd.conf (A1.map Rec.d) q.d (A2.map Rec.d) r.d (B.map Rec.d ++ post) (by rw [hI.split, hH]; simp) (conflict_of_write hqd ht))
  have hB : ∀ q ∈ B, q.d.x.dst = some t → LL listed q.d.idx = false := by
    intro q hq hqd
    obtain ⟨B1, B2, rfl⟩ := List.append_of_mem hq
    have hc : conflict r.d.x q.d.x = true := by
      rcases ht with h | h
      · exact conflict_of_read hqd h
      · exact conflict_of_write h (.inr hqd)
    have hp := hd.conf (A.map Rec.d) r.d (B1.map Rec.d) q.d (B2.map Rec.d ++ post) (by rw [hI.split, hH]; simp) hc
    cases hl : LL listed q.d.idx with
    | false => rfl
    | true => exact absurd (hI.down _ hl _ hp) (by rw [hn]; simp)
  have h1 : H.filter (fun r => LL listed r.d.idx) = A.filter (fun r => LL listed r.d.idx) ++ B.filter (fun r => LL listed r.d.idx) := by
    rw [hH, List.filter_append, List.filter_cons, if_neg (by rw [hn]; simp)]
  rw [h1, frOf_append, frOf_skip (fun q hq => ?_), frOf_filter hA]
  rw [List.mem_filter] at hq
  exact fun hqd => absurd hq.2 (by rw [hB q hq.1 hqd]; simp)

theorem idx_inj (hd : DOk P ops ds pre) {A B : List DIn} {d e : DIn} (h : ds = A ++ d :: B) (he : e ∈ A ∨ e ∈ B) : e.idx ≠ d.idx := by
  have hn := hd.nodup
  rw [h, List.map_append, List.map_cons] at hn
  have hn := List.nodup_append.1 hn
  intro hx
  rcases he with he | he
  · exact hn.2.2 e.idx (List.mem_map.2 ⟨e, he, rfl⟩) d.idx (List.mem_cons_self ..) hx
  · have := (List.nodup_cons.1 hn.2.1).1
    exact this (List.mem_map.2 ⟨e, he, hx⟩)

theorem idx_eq (hd : DOk P ops ds pre) {d e : DIn} (h1 : d ∈ ds) (h2 : e ∈ ds) (h : d.idx = e.idx) : d = e := by
  obtain ⟨A, B, hs⟩ := List.append_of_mem h1
  rw [hs] at h2
  rcases List.mem_append.1 h2 with h2 | h2
  · exact absurd h.symm (idx_inj hd hs (.inl h2))
  · rcases List.mem_cons.1 h2 with h2 | h2
    · exact h2.symm
    · exact absurd h.symm (idx_inj hd hs (.inr h2))
/-- What has not run speaks of no slot of what has run ahead of its place. -/
theorem Inv.noE (hd : DOk P ops ds pre) (hI : Inv P ds pre K g0 fr0 listed a w H post σ E) {A B : List DIn} {d : DIn} (hs : ds = A ++ d :: B) (hn : LL listed d.idx = false) (hB : ∀ e ∈ E, e.d ∈ B) :
    ∀ t, (t ∈ d.x.reads ∨ d.x.dst = some t) → ∀ e ∈ E, e.t ≠ t := by
  rintro t ht e he rfl
  obtain ⟨_, h2, h3, _⟩ := hI.ear e he
  obtain ⟨B1, B2, hB⟩ := List.append_of_mem (hB e he)
  have hdst : e.d.x.dst = some e.t := by rw [h3]
  have hc : conflict d.x e.d.x = true := by
    rcases ht with h | h
    · exact conflict_of_read hdst h
    · exact conflict_of_write h (.inr hdst)
  have hp := hd.conf A d B1 e.d B2 (by rw [hs, hB]; simp) hc
  have := hI.down _ h2 _ hp
  rw [hn] at this; cases this

theorem LL_set {i k : Nat} (h : i < listed.size) : LL (listed.setIfInBounds i true) k = if k = i then true else LL listed k := by
  unfold LL
  by_cases hk : k = i
  · subst hk; simp [h]
  · rw [if_neg hk]
    exact getD_set_ne false (fun e => hk e.symm)

end

end Aw
end Go.Proofs.Ytoliadfdklfmfaa
