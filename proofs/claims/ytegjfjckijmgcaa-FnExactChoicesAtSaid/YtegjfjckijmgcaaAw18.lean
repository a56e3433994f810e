/- Functions: from the code of the body to the call; the objects that a call leaves behind. -/
import Derived.Test.YtegjfjckijmgcaaAw17
set_option linter.unusedVariables false
set_option linter.unusedSimpArgs false
namespace Go.Proofs.Ytegjfjckijmgcaa
namespace Aw

mutual
theorem PV.bel_le {a b : Nat} (h : a ≤ b) : ∀ {p : PV}, p.bel a = true → p.bel b = true
  | .agg ps, k => by simp only [PV.bel] at k ⊢; exact PV.bels_le h k
  | .tup ps, k => by simp only [PV.bel] at k ⊢; exact PV.bels_le h k
  | .fn _ ps, k => by simp only [PV.bel] at k ⊢; exact PV.bels_le h k
  | .own _ _ _ _, k => by simp only [PV.bel, decide_eq_true_eq] at k ⊢; omega
  | .ptr _ _ _ _, k => by simp only [PV.bel, decide_eq_true_eq] at k ⊢; omega
  | .any, k => by simp [PV.bel]
  | .val _, k => by simp [PV.bel]
  | .list _ _ _, k => by simp [PV.bel]
  | .fptr _ _, k => by simp [PV.bel]
  | .tl _ xs, k => by simp only [PV.bel] at k ⊢; exact PV.bels_le h k
theorem PV.bels_le {a b : Nat} (h : a ≤ b) : ∀ {p : List PV}, PV.bels a p = true → PV.bels b p = true
  | [], _ => by simp [PV.bels]
  | p :: ps, k => by
    simp only [PV.bels, Bool.and_eq_true] at k ⊢
    exact ⟨PV.bel_le h k.1, PV.bels_le h k.2⟩
end

/-- The first n objects alone. -/
def G.cut (g : G) (n : Nat) : G := ⟨g.σ.take n, g.ρ.take n, g.w, g.h⟩

theorem G.frz_cut {g : G} {n b : Nat} (h : g.frz b) : (g.cut n).frz b := by
  refine ⟨h.1, fun i hi => ?_, h.2.2⟩
  simp only [G.cut, List.getElem?_take] at hi
  split at hi
  · exact h.2.1 i hi
  · cases hi

theorem VR.cut {g : G} {n : Nat} : ∀ {m : Nat} {p : PV} {c : Value}, p.bel n = true → VR g m p c → VR (g.cut n) m p c
  | 0, _, _, _, k => k.elim
  | m + 1, p, c, hb, k => by
    have ih := @VR.cut g n m
    cases p with
    | any => trivial
    | val v => exact k
    | agg ps =>
      simp only [VR, PV.bel] at k hb ⊢
      obtain ⟨cs, h1, h2, h3⟩ := k
      exact ⟨cs, h1, h2, fun j p v hp hv => ih (PV.bels_iff.1 hb p (List.mem_of_getElem? hp)) (h3 j p v hp hv)⟩
    | tup ps =>
      simp only [VR, PV.bel] at k hb ⊢
      obtain ⟨cs, h1, h2, h3⟩ := k
      exact ⟨cs, h1, h2, fun j p v hp hv => ih (PV.bels_iff.1 hb p (List.mem_of_getElem? hp)) (h3 j p v hp hv)⟩
    | list sz xs ex =>
      simp only [VR] at k ⊢
      obtain ⟨a, cap, h1, h2, h3, h4, h5, h6⟩ := k
      refine ⟨a, cap, h1, h2, h3, h4, h5, fun h0 => ?_⟩
      obtain ⟨ad, e1, e2, e3, e4⟩ := h6 h0
      refine ⟨ad, e1, e2, G.frz_cut e3, fun j p hp => ?_⟩
      obtain ⟨v, q1, q2⟩ := e4 j p hp
      refine ⟨v, q1, ih ?_ q2⟩
      obtain ⟨x, hx, hp'⟩ := List.mem_flatMap.1 (List.mem_of_getElem? hp)
      exact PV.bel_le (Nat.zero_le n) (bels_cells (h5 x hx).1 p hp')
    | tl sz xs =>
      simp only [VR, PV.bel] at k hb ⊢
      obtain ⟨a, cap, h1, h2, h3, h6⟩ := k
      refine ⟨a, cap, h1, h2, h3, fun h0 => ?_⟩
      obtain ⟨ad, e1, e2, e3, e4⟩ := h6 h0
      refine ⟨ad, e1, e2, G.frz_cut e3, fun j p hp => ?_⟩
      obtain ⟨v, q1, q2⟩ := e4 j p hp
      refine ⟨v, q1, ih ?_ q2⟩
      obtain ⟨x, hx, hp'⟩ := List.mem_flatMap.1 (List.mem_of_getElem? hp)
      exact bels_cells (PV.bels_iff.1 hb x hx) p hp'
    | fptr cs off =>
      simp only [VR] at k ⊢
      obtain ⟨ad, e1, e2, e3, e4⟩ := k
      exact ⟨ad, e1, e2, G.frz_cut e3, fun j p hp => let ⟨q0, v, q1, q2⟩ := e4 j p hp; ⟨q0, v, q1, ih (PV.bel_le (Nat.zero_le n) q0) q2⟩⟩
    | own id ver off len =>
      simp only [VR, PV.bel, decide_eq_true_eq] at k hb ⊢
      obtain ⟨a, cap, q1, q2, sz, es, v1, h1, h2, h3⟩ := k
      refine ⟨a, cap, q1, q2, sz, es, v1, by simp [G.cut, List.getElem?_take, hb, h1], h2, fun e => ?_⟩
      have := h3 e
      simp only [G.cut, List.getElem?_take, hb, if_true]
      exact this
    | ptr id ver i off =>
      simp only [VR, PV.bel, decide_eq_true_eq] at k hb ⊢
      obtain ⟨ad, q0, sz, es, v1, h1, h2, h3⟩ := k
      refine ⟨ad, q0, sz, es, v1, by simp [G.cut, List.getElem?_take, hb, h1], h2, fun e => ?_⟩
      have := h3 e
      simp only [G.cut, List.getElem?_take, hb, if_true]
      exact this
    | fn f caps =>
      simp only [VR, PV.bel] at k hb ⊢
      obtain ⟨cs, h1, h2, h3⟩ := k
      exact ⟨cs, h1, h2, fun j p v hp hv => ih (PV.bels_iff.1 hb p (List.mem_of_getElem? hp)) (h3 j p v hp hv)⟩
theorem R.cut {g : G} {n : Nat} {p : PV} {c : Value} (hb : p.bel n = true) (h : R g p c) : R (g.cut n) p c := let ⟨m, h⟩ := h; ⟨m, h.cut hb⟩

theorem objsBel_get {n : Nat} : ∀ {os : List AObj} {i sz : Nat} {es : List PV} {ver : Nat}, objsBel n os = true → os[i]? = some (.row sz es ver) → PV.bels n es = true
  | [], i, _, _, _, _, h => by simp at h
  | .row a b c :: os, 0, sz, es, ver, k, h => by
    simp [objsBel] at k h
    obtain ⟨rfl, rfl, rfl⟩ := h; exact k.1
  | .row a b c :: os, i + 1, sz, es, ver, k, h => by
    simp [objsBel] at k h
    exact objsBel_get k.2 h

theorem St.cut {g : G} {n : Nat} (h : St g) (hb : objsBel n (g.σ.take n) = true) : St (g.cut n) := by
  refine ⟨⟨h.hid.1, fun i b hi => ?_⟩, by simp [G.cut, h.len], fun i j b hi hj => ?_, fun i sz es ver ho => ?_⟩
  · simp only [G.cut, List.getElem?_take] at hi
    split at hi
    · exact h.hid.2 i b hi
    · cases hi
  · simp only [G.cut, List.getElem?_take] at hi hj
    split at hi <;> split at hj <;> first | exact h.inj i j b hi hj | cases hi | cases hj
  · have hes := objsBel_get hb ho
    simp only [G.cut, List.getElem?_take] at ho
    split at ho
    · rename_i hlt
      rcases h.obj i sz es ver ho with ⟨b, cs, e, fr, h1, h2, h3, h4, h5, h6⟩ | ⟨h1, h2⟩
      · refine .inl ⟨b, cs, e, fr, by simp [G.cut, List.getElem?_take, hlt, h1], h2, h3, h4, h5, fun j p hp => ?_⟩
        obtain ⟨v, q1, q2⟩ := h6 j p hp
        refine ⟨v, q1, q2.cut ?_⟩
        obtain ⟨x, hx, hp'⟩ := List.mem_flatMap.1 (List.mem_of_getElem? hp)
        exact bels_cells (PV.bels_iff.1 hes x hx) p hp'
      · exact .inr ⟨by simp [G.cut, List.getElem?_take, hlt, h1], h2⟩
    · cases ho

theorem Step.cut {g g' : G} {n : Nat} (h : Step g g') (hn : g.σ.length ≤ n) : Step g (g'.cut n) := by
  refine ⟨h.h, h.os, h.tape, h.output, h.size, h.block, fun i b hi => ?_, fun i sz es ver ho => ?_⟩
  · simp only [G.cut, List.getElem?_take] at hi
    split at hi
    · exact h.own i b hi
    · cases hi
  · have hlt : i < n := Nat.lt_of_lt_of_le (List.getElem?_eq_some_iff.1 ho).1 hn
    obtain ⟨es', ver', h1, h2, h3⟩ := h.obj i sz es ver ho
    exact ⟨es', ver', by simp [G.cut, List.getElem?_take, hlt, h1], h2, fun e => by simpa [G.cut, List.getElem?_take, hlt] using h3 e⟩

/-! ### The end of a function -/
def aress (fr : List PV) (σ : List AObj) : List ARes → Option (List PV)
  | [] => some []
  | r :: rs => match ares1 fr σ r, aress fr σ rs with
    | some p, some ps => some (p :: ps)
    | _, _ => none
def resOf : List PV → PV
  | [p] => p
  | ps => .tup ps

/-- At the end of a function, behind weakenings that are no code's: what is returned, and behind which objects. -/
def retA (n : Nat) (rs : List ARes) (Q : PV → List AObj → Prop) : Post
  | .exit _, _, _ => False
  | _, fr, σ => ∃ fr' σ' ps m, n ≤ m ∧ Imp n fr σ fr' σ' ∧ aress fr' σ' rs = some ps ∧ PV.bels m ps = true ∧ objsBel m (σ'.take m) = true ∧ Q (resOf ps) (σ'.take m)

theorem retA_of {n m : Nat} {rs : List ARes} {Q : PV → List AObj → Prop} {x : X} {fr : List PV} {σ : List AObj} {ps : List PV} (hx : ∀ id, x ≠ .exit id) (hm : n ≤ m) (h : aress fr σ rs = some ps) (hb : PV.bels m ps = true) (ho : objsBel m (σ.take m) = true) (hq : Q (resOf ps) (σ.take m)) : retA n rs Q x fr σ := by
  cases x with
  | exit id => exact absurd rfl (hx id)
  | normal => exact ⟨fr, σ, ps, m, hm, Imp.refl _ _ _, h, hb, ho, hq⟩
  | ret => exact ⟨fr, σ, ps, m, hm, Imp.refl _ _ _, h, hb, ho, hq⟩

def chkRes (P : Program) : List ResultVar → List ARes → Bool
  | [], [] => true
  | .tmp t :: r, .tmp t' :: r' => t == t' && chkRes P r r'
  | .cell a t :: r, .cell a' n agg :: r' => a == a' && aggIs P t agg && (if agg then sizeIs P t n else n == 1) && chkRes P r r'
  | _, _ => false

/-- The function's code is ac, its results are rs, nt temporaries. -/
def chkFn (P : Program) (f : FuncId) (ac : AC) (rs : List ARes) (nt : Nat) : Bool := match P.funcs[f]? with
  | some fn => fn.ntmps == nt && fn.name != "runtime.NumGoroutine" && chkRes P fn.results.toList rs && (match fn.body with | some c => chk P c ac | none => false)
  | none => false

theorem chkFn_callable {P : Program} {f : FuncId} {ac : AC} {rs : List ARes} {nt : Nat} (h : chkFn P f ac rs nt = true) : callable P f = true := by
  unfold chkFn at h
  unfold callable
  split at h
  · rename_i fn hf
    simp only [Bool.and_eq_true] at h
    rw [hf]; show (fn.body.isSome && fn.name != "runtime.NumGoroutine") = true
    rw [Bool.and_eq_true]
    refine ⟨?_, h.1.1.2⟩
    have := h.2
    split at this
    · rename_i c hc; simp [hc]
    · cases this
  · cases h

theorem run_loadVar {P : Program} {g : G} {pv q : PV} {c : Value} {t : TypeId} {n : Nat} {agg : Bool} (hs : St g) (hr : R g pv c) (ha : aggIs P t agg = true) (hn : (if agg then sizeIs P t n else n == 1) = true)
    (h : loadA g.σ pv n agg = some q) : ∃ ad v, c = .pointer (some ad) ∧ (loadVar t ad).run P g.w = .ok v g.w ∧ R g q v := by
  unfold loadA at h
  split at h
  · rename_i cs hcs
    obtain ⟨ad, e1, e2, e3⟩ := cellsAt_sound hs hcs hr
    split at h
    · rename_i hle
      cases agg with
      | true =>
        simp only [if_true] at h hn
        injection h with h; subst h
        have hc : ∃ vs : List Value, vs.length = n ∧ (∀ (j : Nat) v, vs[j]? = some v → g.w.cell? (ad.add j) = some v) ∧ Rs g (cs.take n) vs := by
          clear hn ha
          induction n with
          | zero => exact ⟨[], rfl, fun j v hv => by simp at hv, ⟨by simp, fun j q v hq => by simp at hq⟩⟩
          | succ n ih =>
            obtain ⟨vs, h1, h2, h3⟩ := ih (by omega)
            obtain ⟨v, hv1, hv2⟩ := e3 n cs[n] (List.getElem?_eq_getElem (by omega))
            refine ⟨vs ++ [v], by simp [h1], fun j u hu => ?_, ?_⟩
            · rcases Nat.lt_or_ge j n with hj | hj
              · rw [List.getElem?_append_left (by omega)] at hu; exact h2 j u hu
              · rw [List.getElem?_append_right (by omega)] at hu
                have : j = n := by
                  have := (List.getElem?_eq_some_iff.1 hu).1
                  simp at this; omega
                subst this
                simp [h1] at hu; subst hu; exact hv1
            · rw [List.take_succ_eq_append_getElem (by omega)]
              exact h3.append ⟨rfl, fun j q u hq hu => by
                cases j with
                | zero => simp at hq hu; subst hq; subst hu; exact hv2
                | succ j => simp at hq⟩
        obtain ⟨vs, h1, h2, h3⟩ := hc
        have hl := run_loadCells_list (P := P) g.w ad vs h2
        rw [h1] at hl
        exact ⟨ad, .agg vs.toArray, e1, by simp [loadVar, aggIs_run ha, sizeIs_run hn, hl], R_agg.2 ⟨vs, rfl, h3⟩⟩
      | false =>
        simp at h hn
        subst hn
        cases cs with
        | nil => simp at hle
        | cons q cs =>
          simp at h; subst h
          obtain ⟨v, hv1, hv2⟩ := e3 0 q (by simp)
          have h0 : ad.add 0 = ad := rfl
          rw [h0] at hv1
          exact ⟨ad, v, e1, by simp [loadVar, aggIs_run ha, hv1], hv2⟩
    · cases h
  · cases h

theorem FR.getD {g : G} {fr : List PV} {a : Act} (h : FR g fr a) (t : Nat) : R g (fr.getD t .any) (a.tmps.getD t undef) := by
  have := h.ev (.tmp t)
  exact this

theorem run_results {P : Program} {g : G} {fr : List PV} {a : Act} (hs : St g) (hf : FR g fr a) : ∀ {rv : List ResultVar} {rs : List ARes} {ps : List PV}, chkRes P rv rs = true → aress fr g.σ rs = some ps →
    ∃ vs : List Value, (rv.mapM (m := Sem) fun
      | .tmp t => pure (a.tmps.getD t undef)
      | .cell ad t => do loadVar t (← asAddr (a.tmps.getD ad undef))).run P g.w = .ok vs g.w ∧ Rs g ps vs
  | [], [], ps, hc, hp => by
    simp [aress] at hp; subst hp
    exact ⟨[], by simp, Rs.nil _⟩
  | [], _ :: _, _, hc, _ => by simp [chkRes] at hc
  | _ :: _, [], _, hc, _ => by simp [chkRes] at hc
  | x :: rv, r :: rs, ps, hc, hp => by
    simp only [aress] at hp
    split at hp
    · rename_i p qs h1 h2
      injection hp with hp; subst hp
      cases x with
      | tmp t =>
        cases r with
        | tmp t' =>
          simp [chkRes] at hc
          obtain ⟨rfl, hc⟩ := hc
          obtain ⟨vs, k1, k2⟩ := run_results hs hf hc h2
          simp [ares1] at h1
          have hg := hf.getD t
          rw [List.getD_eq_getElem?_getD, h1] at hg
          refine ⟨a.tmps.getD t undef :: vs, by simp only [List.mapM_cons, Sem.run_bind, Sem.run_pure, Result.andThen_ok, k1], ?_⟩
          exact Rs.append (ps := [p]) (cs := [_]) ⟨rfl, fun j q u hq hu => by
            cases j with
            | zero => simp at hq; subst hq; rw [List.getElem?_cons_zero] at hu; injection hu with hu; subst hu; exact hg
            | succ j => simp at hq⟩ k2
        | cell _ _ _ => simp [chkRes] at hc
      | cell ad t =>
        cases r with
        | tmp t' => simp [chkRes] at hc
        | cell ad' n agg =>
          simp only [chkRes, Bool.and_eq_true, beq_iff_eq] at hc
          obtain ⟨⟨⟨rfl, hc1⟩, hc2⟩, hc⟩ := hc
          obtain ⟨vs, k1, k2⟩ := run_results hs hf hc h2
          simp only [ares1] at h1
          obtain ⟨d, v, e1, e2, e3⟩ := run_loadVar (P := P) hs (hf.getD ad) hc1 hc2 h1
          have hh : asAddr (a.tmps.getD ad undef) = pure d := by rw [e1]; rfl
          refine ⟨v :: vs, by simp only [List.mapM_cons, Sem.run_bind, hh, Sem.run_pure, Result.andThen_ok, e2, k1], ?_⟩
          exact Rs.append (ps := [p]) (cs := [_]) ⟨rfl, fun j q u hq hu => by
            cases j with
            | zero => simp at hq hu; subst hq; subst hu; exact e3
            | succ j => simp at hq⟩ k2
    · cases hp

theorem ACall_of {P : Program} {f : FuncId} {ac : AC} {rs : List ARes} {nt : Nat} {args : List PV} {σ : List AObj} {Q : PV → List AObj → Prop} (hc : chkFn P f ac rs nt = true)
    (h : AE P σ.length ac (retA σ.length rs Q) (args ++ List.replicate (nt - args.length) .any) σ) : ACall P f args σ Q := by
  intro g vs hg hst hr
  subst hg
  unfold chkFn at hc
  split at hc
  · rename_i fn hf
    simp only [Bool.and_eq_true, beq_iff_eq] at hc
    obtain ⟨⟨⟨hn, _⟩, hres⟩, hb⟩ := hc
    split at hb
    · rename_i c hbody
      refine calls_of_wp hf hbody (wp_mono (h c hb g _ g.w rfl ⟨g.ρ, hst, Step.refl _, ?_⟩) ?_)
      · refine ⟨rfl, by simp [hn, hr.1], fun i p hp => ?_⟩
        rw [List.getElem?_append] at hp
        simp only [Array.getElem?_append, List.size_toArray]
        rw [hr.1]
        split at hp
        · rename_i hlt
          rw [if_pos hlt]
          have : i < vs.length := by rw [hr.1]; exact hlt
          exact ⟨vs[i], by simp [this], hr.2 i p _ hp (by simp [this])⟩
        · rename_i hlt
          rw [if_neg hlt]
          simp only [List.getElem?_replicate] at hp
          split at hp
          · rename_i hl
            injection hp with hp; subst hp
            exact ⟨undef, by rw [Array.getElem?_replicate, if_pos (by rw [hn]; exact hl)], R_any _ _⟩
          · cases hp
      · rintro e a w' ⟨x, fr, σ', rfl, hrel, hq⟩
        have key : (∃ fr'' σ'' ps m, g.σ.length ≤ m ∧ Imp g.σ.length fr σ' fr'' σ'' ∧ aress fr'' σ'' rs = some ps ∧ PV.bels m ps = true ∧ objsBel m (σ''.take m) = true ∧ Q (resOf ps) (σ''.take m)) →
            a.defers = [] ∧ ∃ v, (results fn a.tmps).run P w' = .ok v w' ∧ ∃ v' p σ1 ρ1, Ending.returned v = .returned v' ∧ St ⟨σ1, ρ1, w', g.h⟩ ∧ Step g ⟨σ1, ρ1, w', g.h⟩ ∧ R ⟨σ1, ρ1, w', g.h⟩ p v' ∧ Q p σ1 := by
          rintro ⟨fr2, σ2, ps, m, hm, himp, hps, hbel, hob, hQ⟩
          obtain ⟨ρ2, k1, k2, k3⟩ := himp g a w' rfl hrel
          refine ⟨k3.defers, ?_⟩
          obtain ⟨us, r1, r2⟩ := run_results (P := P) k1 k3 (rv := fn.results.toList) hres hps
          dsimp only at r1
          have hrun : (results fn a.tmps).run P w' = .ok (if h : us.toArray.size = 1 then us.toArray[0] else .tuple us.toArray) w' := by
            unfold results
            rw [Array.mapM_eq_mapM_toList]; simp only [Sem.run_bind, Sem.run_map, Sem.run_pure]
            exact congrArg (fun z => (Result.andThen z fun a w' => Result.ok a.toArray w').andThen fun a w' => Result.ok (if h : a.size = 1 then a[0] else Value.tuple a) w') r1
          refine ⟨_, hrun, _, resOf ps, σ2.take m, ρ2.take m, rfl, St.cut k1 hob, Step.cut k2 hm, ?_, hQ⟩
          have : R ⟨σ2, ρ2, w', g.h⟩ (resOf ps) (if h : us.toArray.size = 1 then us.toArray[0] else .tuple us.toArray) ∧ (resOf ps).bel m = true := by
            match ps, us, r2, hbel with
            | [p], [u], r2, hbel => exact ⟨by simpa [resOf] using r2.2 0 p u (by simp) (by simp), by simpa [resOf, PV.bels] using hbel⟩
            | [], [], r2, hbel => exact ⟨R_tup.2 ⟨[], by simp, Rs.nil _⟩, by simp [resOf, PV.bel, PV.bels]⟩
            | p :: q :: ps, u :: v :: us, r2, hbel => exact ⟨R_tup.2 ⟨u :: v :: us, by simp, r2⟩, by simpa [resOf, PV.bel] using hbel⟩
            | [], u :: us, r2, _ => have := r2.1; simp at this
            | [p], [], r2, _ => have := r2.1; simp at this
            | [p], u :: v :: us, r2, _ => have := r2.1; simp at this
            | p :: q :: ps, [], r2, _ => have := r2.1; simp at this
            | p :: q :: ps, [u], r2, _ => have := r2.1; simp at this
          exact this.1.cut this.2
        cases x with
        | exit id => exact hq.elim
        | normal => exact key hq
        | ret => exact key hq
    · cases hb
  · cases hc

end Aw
end Go.Proofs.Ytegjfjckijmgcaa
