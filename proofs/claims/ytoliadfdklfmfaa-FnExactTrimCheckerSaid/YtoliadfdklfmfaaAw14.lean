/- Regions whose order is open: what does not hang on the order. -/
import Derived.Test.YtoliadfdklfmfaaAw12
set_option linter.unusedVariables false
set_option linter.unusedSimpArgs false
namespace Go.Proofs.Ytoliadfdklfmfaa
namespace Aw

inductive AStep where
  | op (i : AI)
  | call (f : Operand) (args : List Operand) (z : Bool := false)
structure AIn where
  dst : Option Nat
  s : AStep
  g : Option (Nat × Bool) := none

/-- May the function be entered? -/
def callable (P : Program) (f : FuncId) : Bool := match P.funcs[f]? with
  | some fn => fn.body.isSome && fn.name != "runtime.NumGoroutine"
  | none => false

/-- A call of a function value. -/
def ACallV (P : Program) (p : PV) (args : List PV) (σ : List AObj) (Q : PV → List AObj → Prop) : Prop :=
  match p with
  | .val (.func (.func f) first caps) => first = #[] ∧ caps = #[] ∧ callable P f = true ∧ ACall P f args σ Q
  | .fn f caps => callable P f = true ∧ ACall P f (args ++ caps) σ Q
  | _ => False

def setD (fr : List PV) (d : Option Nat) (p : PV) : List PV := match d with | some d => fr.set d p | none => fr
def guardA (fr : List PV) : Option (Nat × Bool) → Option Bool
  | none => some true
  | some (t, want) => match fr[t]? with
    | some (.val (.bool b)) => some (b == want)
    | some (.val (.tuple _)) => some false
    | _ => none

/-- Instructions one behind the other. -/
def ASeq (P : Program) : List AIn → (List PV → List AObj → Prop) → List PV → List AObj → Prop
  | [], K, fr, σ => K fr σ
  | x :: xs, K, fr, σ =>
    match guardA fr x.g with
    | some true =>
      match x.s with
      | .op i => match ai fr σ i with
        | some (p, σ') => ASeq P xs K (setD fr x.dst p) σ'
        | none => match ai2 fr σ i with
          | some q => ASeq P xs K (setD fr x.dst q.1.1) q.1.2 ∧ ASeq P xs K (setD fr x.dst q.2.1) q.2.2
          | none => False
      | .call f args _ => ACallV P (aev fr f) (args.map (aev fr)) σ fun p σ' => ASeq P xs K (setD fr x.dst p) σ'
    | some false => ASeq P xs K (setD fr x.dst (.val undef)) σ
    | none => False

/-- The operation is the instruction. -/
def chkIn (P : Program) (ops : Array Oper) (o : Oper) (x : AIn) : Bool :=
  decide (o.dst = x.dst) &&
  (match o.guard, x.g with
   | none, none => true
   | some (j, w), some (t, w') => w == w' && (match ops[j]? with | some oj => decide (oj.dst = some t) | none => false)
   | _, _ => false) &&
  (match x.s with
   | .op i => chkI P o i
   | .call f args _ => match o.op with
     | .call c => (match c.callee with | .value f' => oeq f' f | _ => false) && oeqs c.args.toList args
     | _ => false)
def chkIns (P : Program) (ops : Array Oper) : List Oper → List AIn → Bool
  | [], [] => true
  | o :: os, x :: xs => chkIn P ops o x && chkIns P ops os xs
  | _, _ => false

section
variable {P : Program}

theorem FR.step {g g' : G} {fr : List PV} {a : Act} (h : FR g fr a) (k : Step g g') : FR g' fr a :=
  ⟨h.defers, h.size, fun i p hp => let ⟨v, h1, h2⟩ := h.slot i p hp; ⟨v, h1, h2.step k⟩⟩
theorem FR.put {g : G} {fr : List PV} {a : Act} (h : FR g fr a) (d : Option Nat) {p : PV} {v : Value} (hr : R g p v) : FR g (setD fr d p) (a.put d v) := by
  cases d with
  | none => exact h
  | some d =>
    refine ⟨h.defers, by simp [Act.put, setD, h.size], fun i q hq => ?_⟩
    rcases set_get? hq with ⟨rfl, rfl, hl⟩ | ⟨h1, h2⟩
    · refine ⟨v, ?_, hr⟩
      simp only [Act.put]
      rw [Array.getElem?_setIfInBounds_self_of_lt (by rw [h.size]; exact hl)]
    · obtain ⟨u, k1, k2⟩ := h.slot i q h2
      refine ⟨u, ?_, k2⟩
      simp only [Act.put]
      rw [Array.getElem?_setIfInBounds_ne (fun e => h1 e.symm)]; exact k1

theorem FR.evs {g : G} {fr : List PV} {a : Act} (h : FR g fr a) (args : List Operand) : Rs g (args.map (aev fr)) (args.map a.eval) := by
  refine ⟨by simp, fun j q v hq hv => ?_⟩
  simp at hq hv
  obtain ⟨x, h1, rfl⟩ := hq
  obtain ⟨y, h2, rfl⟩ := hv
  rw [h1] at h2; injection h2 with h2; subst h2
  exact h.ev x

theorem run_callFunc {f : FuncId} {args : Array Value} {w : World} (h : callable P f = true) : (callFunc f args).run P w = .ok (.enter f args) w := by
  unfold callable at h
  split at h
  · rename_i fn hf
    simp at h
    obtain ⟨h1, h2⟩ := h
    have h1' : ¬ (fn.body.isNone = true) := by cases hb : fn.body <;> simp [hb] at h1 ⊢
    have h2' : ¬ ((fn.name == "runtime.NumGoroutine") = true) := by simpa using h2
    unfold callFunc
    simp only [Sem.run_bind, run_program, Result.andThen_ok, hf, if_neg h2', if_neg h1', Sem.run_pure]
  · cases h

/-- One instruction of a region. -/
theorem in_sound {ops : Array Oper} {o : Oper} {x : AIn} {xs : List AIn} {K : List PV → List AObj → Prop} {fr : List PV} {σ : List AObj} {g0 : G} {a : Act} {w : World} {Q : Exit → Act → World → Prop} {N : Act → World → Prop}
    (hc : chkIn P ops o x = true) (hr : Rel g0 fr σ a w) (h : ASeq P (x :: xs) K fr σ) (hN : ∀ fr' σ' a' w', Rel g0 fr' σ' a' w' → ASeq P xs K fr' σ' → N a' w') :
    if Region.wanted o (yielded ops a.tmps) then o.wp P a w N Q else N (a.put o.dst undef) w := by
  simp only [chkIn, Bool.and_eq_true, decide_eq_true_eq] at hc
  obtain ⟨⟨hd, hg⟩, hs⟩ := hc
  obtain ⟨ρ, hst, hstep, hf⟩ := hr
  simp only [ASeq] at h
  have hguard : ∀ b, guardA fr x.g = some b → Region.wanted o (yielded ops a.tmps) = b := by
    intro b hb
    unfold Region.wanted
    split at hg
    · rename_i e1 e2
      rw [e2] at hb; simp [guardA] at hb; subst hb
      rw [e1]
    · rename_i j w1 t w2 e1 e2
      rw [e2] at hb
      rw [e1]
      simp only [Bool.and_eq_true, beq_iff_eq] at hg
      obtain ⟨rfl, hg⟩ := hg
      simp only [guardA] at hb
      split at hb
      · rename_i bb hbb
        injection hb with hb
        obtain ⟨v, k1, k2⟩ := hf.slot t _ hbb
        rw [R_val] at k2; subst k2
        split at hg
        · rename_i oj hoj
          simp at hg
          simp only [yielded, hoj, Option.bind_some, hg, k1]
          rw [← hb]
          cases bb <;> cases w1 <;> rfl
        · cases hg
      · rename_i q hbb
        injection hb with hb
        obtain ⟨v, k1, k2⟩ := hf.slot t _ hbb
        rw [R_val] at k2; subst k2
        split at hg
        · rename_i oj hoj
          simp at hg
          simp only [yielded, hoj, Option.bind_some, hg, k1]
          rw [← hb]
          rfl
        · cases hg
      · cases hb
    · cases hg
  split at h
  · -- wanted
    rename_i hga
    rw [hguard _ hga, if_pos rfl]
    split at h
    · rename_i i hi
      rw [hi] at hs
      split at h
      · rename_i p σ' hai
        obtain ⟨nx, v, w', ρ', h1, h2, h3, h4, h5⟩ := ai_sound (P := P) (g := ⟨σ, ρ, w, g0.h⟩) hst hf hs hai
        unfold Oper.wp
        rw [h1]
        have hn : N (a.put o.dst v) w' := by
          rw [hd]
          exact hN _ _ _ _ ⟨ρ', h3, hstep.trans h4, (hf.step h4).put x.dst h5⟩ h
        rcases h2 with rfl | ⟨rfl, rfl⟩
        · exact hn
        · exact hn
      · split at h
        · rename_i q hai
          have two : ∀ p σ', Gives P ⟨σ, ρ, w, g0.h⟩ o a p σ' → ASeq P xs K (setD fr x.dst p) σ' → o.wp P a w N Q := by
            rintro p σ' ⟨nx, v, w', ρ', h1, h2, h3, h4, h5⟩ h
            unfold Oper.wp
            rw [h1]
            have hn : N (a.put o.dst v) w' := by
              rw [hd]
              exact hN _ _ _ _ ⟨ρ', h3, hstep.trans h4, (hf.step h4).put x.dst h5⟩ h
            rcases h2 with rfl | ⟨rfl, rfl⟩
            · exact hn
            · exact hn
          rcases ai2_sound (P := P) (g := ⟨σ, ρ, w, g0.h⟩) hst hf hs hai with hg2 | hg2
          · exact two _ _ hg2 h.1
          · exact two _ _ hg2 h.2
        · exact h.elim
    · rename_i f args zz hcall
      rw [hcall] at hs
      simp only at hs
      split at hs
      · rename_i c hop
        simp only [Bool.and_eq_true] at hs
        obtain ⟨hs1, hs2⟩ := hs
        split at hs1
        · rename_i f' hcal
          obtain rfl := oeq_eq hs1
          have hargs : c.args.toList = args := oeqs_eq hs2
          have hev := hf.ev f'
          have hevs := hf.evs args
          have hmap : c.args.map a.eval = (args.map a.eval).toArray := by rw [← hargs]; apply Array.ext'; simp
          unfold Oper.wp
          -- the call itself
          have key : ∀ (fid : FuncId) (caps : List PV) (cs : List Value), callable P fid = true → a.eval f' = .func (.func fid) #[] cs.toArray → Rs ⟨σ, ρ, w, g0.h⟩ caps cs →
              ACall P fid (args.map (aev fr) ++ caps) σ (fun p σ' => ASeq P xs K (setD fr x.dst p) σ') → o.upon P a N Q ((execOp a.eval o).run P w) := by
            intro fid caps cs hcl he hcs hA
            have hrun : (execOp a.eval o).run P w = .ok (.enter fid ((args.map a.eval ++ cs).toArray)) w := by
              unfold execOp
              simp only [hop, Sem.run_bind, resolve, hcal, he, Deferred.ofValue, Sem.run_pure, Result.andThen_ok, invoke, hmap]
              rw [run_callFunc hcl]
              simp
            rw [hrun, Oper.upon_enter]
            refine (hA ⟨σ, ρ, w, g0.h⟩ (args.map a.eval ++ cs) rfl hst (hevs.append hcs)).mono ?_
            rintro e w' ⟨v, p, σ', ρ', rfl, k1, k2, k3, k4⟩
            show N (a.put o.dst v) w'
            rw [hd]
            exact hN _ _ _ _ ⟨ρ', k1, hstep.trans k2, (hf.step k2).put x.dst k3⟩ k4
          unfold ACallV at h
          split at h
          · rename_i fid first caps hp
            obtain ⟨rfl, rfl, hcl, hA⟩ := h
            rw [hp, R_val] at hev
            exact key fid [] [] hcl hev (Rs.nil _) (by simpa using hA)
          · rename_i fid caps hp
            obtain ⟨hcl, hA⟩ := h
            rw [hp] at hev
            obtain ⟨cs, e1, e2⟩ := R_fn.1 hev
            exact key fid caps cs hcl e1 e2 hA
          · exact h.elim
        · cases hs1
      · exact absurd hs (by simp)
  · rename_i hga
    rw [hguard _ hga, if_neg (by simp)]
    rw [hd]
    exact hN _ _ _ _ ⟨ρ, hst, hstep, hf.put x.dst (R_val.2 rfl)⟩ h
  · exact h.elim

theorem ops_sound {ops : Array Oper} {K : List PV → List AObj → Prop} {g0 : G} {Q : Exit → Act → World → Prop} (hQ : ∀ fr σ a w, Rel g0 fr σ a w → K fr σ → Q .normal a w) :
    ∀ (os : List Oper) (xs : List AIn) (k : Nat) (fr : List PV) (σ : List AObj) (a : Act) (w : World), ops.toList.drop k = os → chkIns P ops os xs = true → Rel g0 fr σ a w → ASeq P xs K fr σ → wpOps P ops Q (List.range' k os.length) a w
  | [], [], k, fr, σ, a, w, _, _, hr, h => hQ fr σ a w hr h
  | [], _ :: _, _, _, _, _, _, _, h, _, _ => by simp [chkIns] at h
  | _ :: _, [], _, _, _, _, _, _, h, _, _ => by simp [chkIns] at h
  | o :: os, x :: xs, k, fr, σ, a, w, hdrop, hc, hr, h => by
    simp only [chkIns, Bool.and_eq_true] at hc
    have ho : ops[k]? = some o := by
      have : (ops.toList.drop k)[0]? = some o := by rw [hdrop]; rfl
      simpa [List.getElem?_drop] using this
    rw [List.length_cons, List.range'_succ, wpOps_cons, wpOp, ho]
    simp only
    have := in_sound (Q := Q) (N := wpOps P ops Q (List.range' (k + 1) os.length)) hc.1 hr h (fun fr' σ' a' w' hr' h' => ops_sound hQ os xs (k + 1) fr' σ' a' w' (by rw [← List.drop_drop, hdrop]; rfl) hc.2 hr' h')
    split
    · rename_i hw; rw [if_pos hw] at this; exact .inl this
    · rename_i hw; rw [if_neg hw] at this; exact this

/-- A region in order. -/
theorem AW_reg {n id : Nat} {ops : Array Oper} {xs : List AIn} {Q : Post} {fr : List PV} {σ : List AObj} (hc : chkIns P ops ops.toList xs = true) (h : ASeq P xs (Q .normal) fr σ) : AW P n (.region id ops false) Q fr σ := by
  intro g0 a w hn hr
  refine wp_region ?_
  have := ops_sound (P := P) (ops := ops) (K := Q .normal) (g0 := g0) (Q := lift g0 Q) (fun fr σ a w hr hq => ⟨.normal, fr, σ, rfl, hr, hq⟩) ops.toList xs 0 fr σ a w rfl hc hr h
  rwa [Array.length_toList, ← List.range_eq_range'] at this
end

end Aw
end Go.Proofs.Ytoliadfdklfmfaa

set_option linter.unusedVariables false
set_option linter.unusedSimpArgs false
namespace Go.Proofs.Ytoliadfdklfmfaa
namespace Aw

def oslot : Operand → List Nat
  | .tmp t => [t]
  | _ => []
def ooslot : Option Operand → List Nat
  | some x => oslot x
  | none => []
/-- The slots that an operation reads. -/
def AI.slots : AI → List Nat
  | .mv x | .load _ _ x | .faddr x _ | .field x _ _ _ | .eqnil _ _ _ x | .un _ x | .conv _ x | .s2b x | .b2s x | .ext x _ | .nilc x | .len _ x | .cap x | .box _ x => oslot x
  | .pick c a b => oslot c ++ oslot a ++ oslot b
  | .idxb _ a x | .store _ a x | .iaddrS a x _ | .iaddrA a x _ _ | .idxStr a x | .idxArr a x _ _ _ | .bin _ a x | .mx a x | .eqb _ a x | .eqst _ _ a x | .append a x _ _ | .appz a x _ _ | .make a x _ _ _ => oslot a ++ oslot x
  | .build _ ps => ps.flatMap fun q => oslot q.2.2
  | .lits _ _ _ _ ps => ps.flatMap fun q => oslot q.2
  | .mkfn _ cs => cs.flatMap oslot
  | .slcS x l h m _ => oslot x ++ ooslot l ++ ooslot h ++ ooslot m
  | .slcStr x l h => oslot x ++ ooslot l ++ ooslot h
  | .alloc _ => []
  | .bad => []
  | .bld _ xs => xs.flatMap oslot
def AStep.slots : AStep → List Nat
  | .op i => i.slots
  | .call f args _ => oslot f ++ args.flatMap oslot
def AIn.reads (x : AIn) : List Nat := x.s.slots ++ (match x.g with | some (t, _) => [t] | none => [])
/-- Does it turn the state? -/
def AI.eff : AI → Bool
  | .store _ _ _ | .s2b _ | .alloc _ | .append _ _ _ _ | .appz _ _ _ _ | .make _ _ _ _ _ => true
  | .lits fz _ _ _ _ => !fz
  | .box fz _ => !fz
  | .bld k _ => k.eff
  | _ => false
/-- Does it look at the state? -/
def AI.sens : AI → Bool
  | .load _ _ _ | .iaddrS _ _ _ | .b2s _ | .slcS _ _ _ _ _ | .bld _ _ => true
  | _ => false
def AIn.eff (x : AIn) : Bool := match x.s with | .op i => i.eff | .call _ _ z => !z
def AIn.sens (x : AIn) : Bool := match x.s with | .op i => i.sens | .call _ _ z => !z

theorem aev_congr {fr fr' : List PV} {x : Operand} (h : ∀ t ∈ oslot x, fr[t]? = fr'[t]?) : aev fr x = aev fr' x := by
  cases x with
  | tmp t => simp only [aev, List.getD_eq_getElem?_getD]; rw [h t (by simp [oslot])]
  | _ => rfl
theorem bnd_congr {fr fr' : List PV} {d : Nat} {x : Option Operand} (h : ∀ t ∈ ooslot x, fr[t]? = fr'[t]?) : bnd fr d x = bnd fr' d x := by
  cases x with
  | none => rfl
  | some x => simp only [bnd]; rw [aev_congr (fr' := fr') h]
theorem putParts_congr {fr fr' : List PV} : ∀ {ps : List (Nat × Nat × Operand)} {cs : List PV}, (∀ t ∈ ps.flatMap fun q => oslot q.2.2, fr[t]? = fr'[t]?) → putParts fr cs ps = putParts fr' cs ps
  | [], _, _ => rfl
  | (off, n, x) :: ps, cs, h => by
    have h1 : aev fr x = aev fr' x := aev_congr fun t ht => h t (by simp [ht])
    have h2 : ∀ cs, putParts fr cs ps = putParts fr' cs ps := fun cs => putParts_congr fun t ht => h t (by simp at ht ⊢; exact .inr ht)
    simp only [putParts, h1, h2]
theorem map_congr_slots {fr fr' : List PV} {l : List Operand} (h : ∀ t ∈ l.flatMap oslot, fr[t]? = fr'[t]?) : l.map (aev fr) = l.map (aev fr') :=
  List.map_congr_left fun x hx => aev_congr fun t ht => h t (List.mem_flatMap.2 ⟨x, hx, ht⟩)

theorem ai_congr {fr fr' : List PV} {σ : List AObj} {i : AI} (h : ∀ t ∈ i.slots, fr[t]? = fr'[t]?) : ai fr σ i = ai fr' σ i := by
  have two : ∀ {x y : Operand}, (∀ t ∈ oslot x ++ oslot y, fr[t]? = fr'[t]?) → aev fr x = aev fr' x ∧ aev fr y = aev fr' y :=
    fun h => ⟨aev_congr fun t ht => h t (List.mem_append_left _ ht), aev_congr fun t ht => h t (List.mem_append_right _ ht)⟩
  cases i with
  | mv x => simp only [ai, aev_congr (fr' := fr') h]
  | load n agg x => simp only [ai, aev_congr (fr' := fr') h]
  | faddr x o => simp only [ai, aev_congr (fr' := fr') h]
  | field x a b c => simp only [ai, aev_congr (fr' := fr') h]
  | eqnil a b c x => simp only [ai, aev_congr (fr' := fr') h]
  | un op x => cases op <;> simp only [ai, aev_congr (fr' := fr') h]
  | conv k x => simp only [ai, aev_congr (fr' := fr') h]
  | s2b x => simp only [ai, aev_congr (fr' := fr') h]
  | b2s x => simp only [ai, aev_congr (fr' := fr') h]
  | ext x j => simp only [ai, aev_congr (fr' := fr') h]
  | nilc x => simp only [ai, aev_congr (fr' := fr') h]
  | cap x => simp only [ai, aev_congr (fr' := fr') h]
  | bad => rfl
  | len b x => simp only [ai, aev_congr (fr' := fr') h]
  | box b x => simp only [ai, aev_congr (fr' := fr') h]
  | pick c x y =>
    have h1 : aev fr c = aev fr' c := aev_congr fun t ht => h t (by simp [AI.slots, ht])
    have h2 : aev fr x = aev fr' x := aev_congr fun t ht => h t (by simp [AI.slots, ht])
    have h3 : aev fr y = aev fr' y := aev_congr fun t ht => h t (by simp [AI.slots, ht])
    simp only [ai, h1, h2, h3]
  | store n x y => obtain ⟨h1, h2⟩ := two h; simp only [ai, h1, h2]
  | iaddrS x y z => obtain ⟨h1, h2⟩ := two h; simp only [ai, h1, h2]
  | iaddrA x y z w => obtain ⟨h1, h2⟩ := two h; simp only [ai, h1, h2]
  | idxb _ x y => obtain ⟨h1, h2⟩ := two h; simp only [ai, h1, h2]
  | idxStr x y => obtain ⟨h1, h2⟩ := two h; simp only [ai, h1, h2]
  | idxArr x y a b c => obtain ⟨h1, h2⟩ := two h; simp only [ai, h1, h2]
  | bin op x y => obtain ⟨h1, h2⟩ := two h; simp only [ai, h1, h2]
  | mx x y => obtain ⟨h1, h2⟩ := two h; simp only [ai, h1, h2]
  | eqb b x y => obtain ⟨h1, h2⟩ := two h; simp only [ai, h1, h2]
  | eqst b ks x y => obtain ⟨h1, h2⟩ := two h; simp only [ai, h1, h2]
  | append x y a b => obtain ⟨h1, h2⟩ := two h; simp only [ai, h1, h2]
  | appz x y a b => obtain ⟨h1, h2⟩ := two h; simp only [ai, h1, h2]
  | make x y a b c => obtain ⟨h1, h2⟩ := two h; simp only [ai, h1, h2]
  | build z ps => simp only [ai, putParts_congr (fr' := fr') h]
  | lits fz sz len z ps =>
    have h1 : ∀ q ∈ ps, aev fr q.2 = aev fr' q.2 := fun q hq => aev_congr fun t ht => h t (by simp only [AI.slots, List.mem_flatMap]; exact ⟨q, hq, ht⟩)
    have h2 : (ps.map fun q => (q.1, aev fr q.2)) = ps.map fun q => (q.1, aev fr' q.2) := List.map_congr_left fun q hq => by rw [h1 q hq]
    have h3 : (ps.all fun q => (aev fr q.2).okc && decide ((aev fr q.2).cells.length = sz) && decide (q.1 < len)) = ps.all fun q => (aev fr' q.2).okc && decide ((aev fr' q.2).cells.length = sz) && decide (q.1 < len) := by
      rw [Bool.eq_iff_iff]; simp only [List.all_eq_true]
      exact ⟨fun k q hq => by rw [← h1 q hq]; exact k q hq, fun k q hq => by rw [h1 q hq]; exact k q hq⟩
    simp only [ai, h2, h3]
  | mkfn f cs => simp only [ai, map_congr_slots (fr' := fr') h]
  | slcS x l hh m sz =>
    have h1 : aev fr x = aev fr' x := aev_congr fun t ht => h t (by simp [AI.slots, ht])
    have h2 : ∀ d, bnd fr d l = bnd fr' d l := fun d => bnd_congr fun t ht => h t (by simp [AI.slots, ht])
    have h3 : ∀ d, bnd fr d hh = bnd fr' d hh := fun d => bnd_congr fun t ht => h t (by simp [AI.slots, ht])
    have h4 : ∀ d, bnd fr d m = bnd fr' d m := fun d => bnd_congr fun t ht => h t (by simp [AI.slots, ht])
    simp only [ai, h1, h2, h3, h4]
    cases m with
    | none => rfl
    | some m => simp only [h4]
  | slcStr x l hh =>
    have h1 : aev fr x = aev fr' x := aev_congr fun t ht => h t (by simp [AI.slots, ht])
    have h2 : ∀ d, bnd fr d l = bnd fr' d l := fun d => bnd_congr fun t ht => h t (by simp [AI.slots, ht])
    have h3 : ∀ d, bnd fr d hh = bnd fr' d hh := fun d => bnd_congr fun t ht => h t (by simp [AI.slots, ht])
    simp only [ai, h1, h2, h3]
  | alloc z => rfl
  | bld k xs => simp only [ai, map_congr_slots (fr' := fr') h]

/-- What has no effect leaves the state. -/
theorem ai_noeff {fr : List PV} {σ σ' : List AObj} {i : AI} {p : PV} (he : i.eff = false) (h : ai fr σ i = some (p, σ')) : σ' = σ := by
  cases i with
  | store | s2b | alloc | append | appz | make => simp [AI.eff] at he
  | lits fz =>
    simp [AI.eff] at he; subst he; simp only [ai] at h
    split at h
    · simp only [if_true] at h
      split at h <;> (injection h with h; injection h with h1 h2; exact h2.symm)
    · cases h
  | box fz => simp [AI.eff] at he; subst he; simp only [ai] at h; split at h <;> simp at h; exact h.2.symm
  | len str x =>
    simp only [ai] at h
    cases hq : (if str = true then lenS (aev fr x) else lenA (aev fr x)) with
    | none => rw [hq] at h; simp at h
    | some n => rw [hq] at h; simp at h; exact h.2.symm
  | cap x =>
    simp only [ai] at h
    cases hq : capA (aev fr x) with
    | none => rw [hq] at h; simp at h
    | some n => rw [hq] at h; simp at h; exact h.2.symm
  | bad => simp [ai] at h
  | bld k xs =>
    simp only [ai] at h
    generalize xs.map (aev fr) = ps at h
    unfold bldA at h
    split at h <;> first | (simp [AI.eff, BK.eff] at he; done) | skip
    all_goals (repeat' split at h) <;> simp at h <;> exact h.2.symm
  | un op x => cases op <;> simp only [ai] at h <;> (repeat' split at h) <;> simp at h <;> grind
  | _ => simp only [ai] at h <;> (repeat' split at h) <;> simp at h <;> grind
/-- What does not look at the state gives the same at every one. -/
theorem ai_nosens {fr : List PV} {σ σ1 : List AObj} {i : AI} {p : PV} (he : i.eff = false) (hn : i.sens = false) (h : ai fr σ i = some (p, σ)) : ai fr σ1 i = some (p, σ1) := by
  cases i with
  | store | s2b | alloc | append | appz | make => simp [AI.eff] at he
  | load | iaddrS | b2s | slcS | bld => simp [AI.sens] at hn
  | lits fz =>
    simp [AI.eff] at he; subst he; simp only [ai] at h ⊢
    split at h
    · rename_i hc
      rw [if_pos hc]
      simp only [if_true] at h ⊢
      split at h <;> rename_i hb <;> (injection h with h; injection h with h1 h2; subst h1)
      · rw [if_pos hb]
      · rw [if_neg hb]
    · cases h
  | box fz => simp [AI.eff] at he; subst he; simp only [ai] at h ⊢; split at h <;> simp at h; rename_i hc; rw [if_pos hc, ← h]; rfl
  | len str x =>
    simp only [ai] at h ⊢
    cases hq : (if str = true then lenS (aev fr x) else lenA (aev fr x)) with
    | none => rw [hq] at h; simp at h
    | some n => rw [hq] at h; simp at h; simp [h]
  | cap x =>
    simp only [ai] at h ⊢
    cases hq : capA (aev fr x) with
    | none => rw [hq] at h; simp at h
    | some n => rw [hq] at h; simp at h; simp [h]
  | bad => simp [ai] at h
  | un op x => cases op <;> simp only [ai] at h ⊢ <;> (repeat' split at h) <;> simp_all
  | _ => simp only [ai] at h ⊢ <;> (repeat' split at h) <;> simp_all

end Aw
end Go.Proofs.Ytoliadfdklfmfaa
