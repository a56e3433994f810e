/- Functions: from the code of the body to the call; the objects that a call leaves behind. Frames by their living slots; what a ghost does. Calls in a state of their own: what the caller owns is lent, or kept out of sight. What a call in a state of its own leaves, set behind the caller's objects. -/
import Derived.Test.YtoliadfdklfmfaaAw17
set_option linter.unusedVariables false
set_option linter.unusedSimpArgs false
namespace Go.Proofs.Ytoliadfdklfmfaa
namespace Aw

mutual
theorem PV.bel_le {a b : Nat} (h : a ≤ b) : ∀ {p : PV}, p.bel a = true → p.bel b = true
  | .agg ps, k => by simp only [PV.bel] at k ⊢; exact PV.bels_le h k
  | .tup ps, k => by simp only [PV.bel] at k ⊢; exact PV.bels_le h k
  | .fn _ ps, k => by simp only [PV.bel] at k ⊢; exact PV.bels_le h k
  | .own _ _ _ _, k => by simp only [PV.bel, decide_eq_true_eq] at k ⊢; omega
  | .ptr _ _ _ _, k => by simp only [PV.bel, decide_eq_true_eq] at k ⊢; omega
  | .any, k => by simp [PV.bel]
  | .val _, k => by simp [PV.bel]
  | .list _ _ _, k => by simp [PV.bel]
  | .fptr _ _, k => by simp [PV.bel]
  | .tl _ xs, k => by simp only [PV.bel] at k ⊢; exact PV.bels_le h k
theorem PV.bels_le {a b : Nat} (h : a ≤ b) : ∀ {p : List PV}, PV.bels a p = true → PV.bels b p = true
  | [], _ => by simp [PV.bels]
  | p :: ps, k => by
    simp only [PV.bels, Bool.and_eq_true] at k ⊢
    exact ⟨PV.bel_le h k.1, PV.bels_le h k.2⟩
end

/-- The first n objects alone. -/
def G.cut (g : G) (n : Nat) : G := ⟨g.σ.take n, g.ρ.take n, g.w, g.h⟩

theorem G.frz_cut {g : G} {n b : Nat} (h : g.frz b) : (g.cut n).frz b := by
  refine ⟨h.1, fun i hi => ?_, h.2.2⟩
  simp only [G.cut, List.getElem?_take] at hi
  split at hi
  · exact h.2.1 i hi
  · cases hi

theorem VR.cut {g : G} {n : Nat} : ∀ {m : Nat} {p : PV} {c : Value}, p.bel n = true → VR g m p c → VR (g.cut n) m p c
  | 0, _, _, _, k => k.elim
  | m + 1, p, c, hb, k => by
    have ih := @VR.cut g n m
    cases p with
    | any => trivial
    | val v => exact k
    | agg ps =>
      simp only [VR, PV.bel] at k hb ⊢
      obtain ⟨cs, h1, h2, h3⟩ := k
      exact ⟨cs, h1, h2, fun j p v hp hv => ih (PV.bels_iff.1 hb p (List.mem_of_getElem? hp)) (h3 j p v hp hv)⟩
    | tup ps =>
      simp only [VR, PV.bel] at k hb ⊢
      obtain ⟨cs, h1, h2, h3⟩ := k
      exact ⟨cs, h1, h2, fun j p v hp hv => ih (PV.bels_iff.1 hb p (List.mem_of_getElem? hp)) (h3 j p v hp hv)⟩
    | list sz xs ex =>
      simp only [VR] at k ⊢
      obtain ⟨a, cap, h1, h2, h3, h4, h5, h6⟩ := k
      refine ⟨a, cap, h1, h2, h3, h4, h5, fun h0 => ?_⟩
      obtain ⟨ad, e1, e2, e3, e4⟩ := h6 h0
      refine ⟨ad, e1, e2, G.frz_cut e3, fun j p hp => ?_⟩
      obtain ⟨v, q1, q2⟩ := e4 j p hp
      refine ⟨v, q1, ih ?_ q2⟩
      obtain ⟨x, hx, hp'⟩ := List.mem_flatMap.1 (List.mem_of_getElem? hp)
      exact PV.bel_le (Nat.zero_le n) (bels_cells (h5 x hx).1 p hp')
    | tl sz xs =>
      simp only [VR, PV.bel] at k hb ⊢
      obtain ⟨a, cap, h1, h2, h3, h6⟩ := k
      refine ⟨a, cap, h1, h2, h3, fun h0 => ?_⟩
      obtain ⟨ad, e1, e2, e3, e4⟩ := h6 h0
      refine ⟨ad, e1, e2, G.frz_cut e3, fun j p hp => ?_⟩
      obtain ⟨v, q1, q2⟩ := e4 j p hp
      refine ⟨v, q1, ih ?_ q2⟩
      obtain ⟨x, hx, hp'⟩ := List.mem_flatMap.1 (List.mem_of_getElem? hp)
      exact bels_cells (PV.bels_iff.1 hb x hx) p hp'
    | fptr cs off =>
      simp only [VR] at k ⊢
      obtain ⟨ad, e1, e2, e3, e4⟩ := k
      exact ⟨ad, e1, e2, G.frz_cut e3, fun j p hp => let ⟨q0, v, q1, q2⟩ := e4 j p hp; ⟨q0, v, q1, ih (PV.bel_le (Nat.zero_le n) q0) q2⟩⟩
    | own id ver off len =>
      simp only [VR, PV.bel, decide_eq_true_eq] at k hb ⊢
      obtain ⟨a, cap, q1, q2, sz, es, v1, h1, h2, h3⟩ := k
      refine ⟨a, cap, q1, q2, sz, es, v1, by simp [G.cut, List.getElem?_take, hb, h1], h2, fun e => ?_⟩
      have := h3 e
      simp only [G.cut, List.getElem?_take, hb, if_true]
      exact this
    | ptr id ver i off =>
      simp only [VR, PV.bel, decide_eq_true_eq] at k hb ⊢
      obtain ⟨ad, q0, sz, es, v1, h1, h2, h3⟩ := k
      refine ⟨ad, q0, sz, es, v1, by simp [G.cut, List.getElem?_take, hb, h1], h2, fun e => ?_⟩
      have := h3 e
      simp only [G.cut, List.getElem?_take, hb, if_true]
      exact this
    | fn f caps =>
      simp only [VR, PV.bel] at k hb ⊢
      obtain ⟨cs, h1, h2, h3⟩ := k
      exact ⟨cs, h1, h2, fun j p v hp hv => ih (PV.bels_iff.1 hb p (List.mem_of_getElem? hp)) (h3 j p v hp hv)⟩
theorem R.cut {g : G} {n : Nat} {p : PV} {c : Value} (hb : p.bel n = true) (h : R g p c) : R (g.cut n) p c := let ⟨m, h⟩ := h; ⟨m, h.cut hb⟩

theorem objsBel_get {n : Nat} : ∀ {os : List AObj} {i sz : Nat} {es : List PV} {ver : Nat}, objsBel n os = true → os[i]? = some (.row sz es ver) → PV.bels n es = true
  | [], i, _, _, _, _, h => by simp at h
  | .row a b c :: os, 0, sz, es, ver, k, h => by
    simp [objsBel] at k h
    obtain ⟨rfl, rfl, rfl⟩ := h; exact k.1
  | .row a b c :: os, i + 1, sz, es, ver, k, h => by
    simp [objsBel] at k h
    exact objsBel_get k.2 h

theorem St.cut {g : G} {n : Nat} (h : St g) (hb : objsBel n (g.σ.take n) = true) : St (g.cut n) := by
  refine ⟨⟨h.hid.1, fun i b hi => ?_⟩, by simp [G.cut, h.len], fun i j b hi hj => ?_, fun i sz es ver ho => ?_, fun i b sz es ver ho hv hb => ?_⟩
  · simp only [G.cut, List.getElem?_take] at hi
    split at hi
    · exact h.hid.2 i b hi
    · cases hi
  · simp only [G.cut, List.getElem?_take] at hi hj
    split at hi <;> split at hj <;> first | exact h.inj i j b hi hj | cases hi | cases hj
  · have hes := objsBel_get hb ho
    simp only [G.cut, List.getElem?_take] at ho
    split at ho
    · rename_i hlt
      rcases h.obj i sz es ver ho with ⟨b, cs, e, fr, h1, h2, h3, h4, h5, h6⟩ | ⟨h1, h2⟩
      · refine .inl ⟨b, cs, e, fr, by simp [G.cut, List.getElem?_take, hlt, h1], h2, h3, h4, h5, fun j p hp => ?_⟩
        obtain ⟨v, q1, q2⟩ := h6 j p hp
        refine ⟨v, q1, q2.cut ?_⟩
        obtain ⟨x, hx, hp'⟩ := List.mem_flatMap.1 (List.mem_of_getElem? hp)
        exact bels_cells (PV.bels_iff.1 hes x hx) p hp'
      · exact .inr ⟨by simp [G.cut, List.getElem?_take, hlt, h1], h2⟩
    · cases ho
  · simp only [G.cut, List.getElem?_take] at ho hb
    split at ho
    · rename_i hlt
      rw [if_pos hlt] at hb
      exact h.ty i b sz es ver ho hv hb
    · cases ho

theorem Step.cut {g g' : G} {n : Nat} (h : Step g g') (hn : g.σ.length ≤ n) : Step g (g'.cut n) := by
  refine ⟨h.h, h.os, h.tape, h.output, h.size, h.block, fun i b hi => ?_, fun i sz es ver ho => ?_⟩
  · simp only [G.cut, List.getElem?_take] at hi
    split at hi
    · exact h.own i b hi
    · cases hi
  · have hlt : i < n := Nat.lt_of_lt_of_le (List.getElem?_eq_some_iff.1 ho).1 hn
    obtain ⟨es', ver', h1, h2, h3⟩ := h.obj i sz es ver ho
    exact ⟨es', ver', by simp [G.cut, List.getElem?_take, hlt, h1], h2, fun e => by simpa [G.cut, List.getElem?_take, hlt] using h3 e⟩

/-! ### The end of a function -/
def aress (fr : List PV) (σ : List AObj) : List ARes → Option (List PV)
  | [] => some []
  | r :: rs => match ares1 fr σ r, aress fr σ rs with
    | some p, some ps => some (p :: ps)
    | _, _ => none
def resOf : List PV → PV
  | [p] => p
  | ps => .tup ps

/-- At the end of a function, behind weakenings that are no code's: what is returned, and behind which objects. -/
def retA (n : Nat) (rs : List ARes) (Q : PV → List AObj → Prop) : Post
  | .exit _, _, _ => False
  | _, fr, σ => ∃ fr' σ' ps m, n ≤ m ∧ Imp n fr σ fr' σ' ∧ aress fr' σ' rs = some ps ∧ PV.bels m ps = true ∧ objsBel m (σ'.take m) = true ∧ Q (resOf ps) (σ'.take m)

theorem retA_of {n m : Nat} {rs : List ARes} {Q : PV → List AObj → Prop} {x : X} {fr : List PV} {σ : List AObj} {ps : List PV} (hx : ∀ id, x ≠ .exit id) (hm : n ≤ m) (h : aress fr σ rs = some ps) (hb : PV.bels m ps = true) (ho : objsBel m (σ.take m) = true) (hq : Q (resOf ps) (σ.take m)) : retA n rs Q x fr σ := by
  cases x with
  | exit id => exact absurd rfl (hx id)
  | normal => exact ⟨fr, σ, ps, m, hm, Imp.refl _ _ _, h, hb, ho, hq⟩
  | ret => exact ⟨fr, σ, ps, m, hm, Imp.refl _ _ _, h, hb, ho, hq⟩

def chkRes (P : Program) : List ResultVar → List ARes → Bool
  | [], [] => true
  | .tmp t :: r, .tmp t' :: r' => t == t' && chkRes P r r'
  | .cell a t :: r, .cell a' n agg :: r' => a == a' && aggIs P t agg && (if agg then sizeIs P t n else n == 1) && chkRes P r r'
  | _, _ => false

/-- The function's code is ac, its results are rs, nt temporaries. -/
def chkFn (P : Program) (f : FuncId) (ac : AC) (rs : List ARes) (nt : Nat) : Bool := match P.funcs[f]? with
  | some fn => fn.ntmps == nt && fn.name != "runtime.NumGoroutine" && chkRes P fn.results.toList rs && (match fn.body with | some c => chk P c ac | none => false)
  | none => false

theorem chkFn_callable {P : Program} {f : FuncId} {ac : AC} {rs : List ARes} {nt : Nat} (h : chkFn P f ac rs nt = true) : callable P f = true := by
  unfold chkFn at h
  unfold callable
  split at h
  · rename_i fn hf
    simp only [Bool.and_eq_true] at h
    rw [hf]; show (fn.body.isSome && fn.name != "runtime.NumGoroutine") = true
    rw [Bool.and_eq_true]
    refine ⟨?_, h.1.1.2⟩
    have := h.2
    split at this
    · rename_i c hc; simp [hc]
    · cases this
  · cases h

theorem run_loadVar {P : Program} {g : G} {pv q : PV} {c : Value} {t : TypeId} {n : Nat} {agg : Bool} (hs : St g) (hr : R g pv c) (ha : aggIs P t agg = true) (hn : (if agg then sizeIs P t n else n == 1) = true)
    (h : loadA g.σ pv n agg = some q) : ∃ ad v, c = .pointer (some ad) ∧ (loadVar t ad).run P g.w = .ok v g.w ∧ R g q v := by
  unfold loadA at h
  split at h
  · rename_i cs hcs
    obtain ⟨ad, e1, e2, e3⟩ := cellsAt_sound hs hcs hr
    split at h
    · rename_i hle
      cases agg with
      | true =>
        simp only [if_true] at h hn
        injection h with h; subst h
        have hc : ∃ vs : List Value, vs.length = n ∧ (∀ (j : Nat) v, vs[j]? = some v → g.w.cell? (ad.add j) = some v) ∧ Rs g (cs.take n) vs := by
          clear hn ha
          induction n with
          | zero => exact ⟨[], rfl, fun j v hv => by simp at hv, ⟨by simp, fun j q v hq => by simp at hq⟩⟩
          | succ n ih =>
            obtain ⟨vs, h1, h2, h3⟩ := ih (by omega)
            obtain ⟨v, hv1, hv2⟩ := e3 n cs[n] (List.getElem?_eq_getElem (by omega))
            refine ⟨vs ++ [v], by simp [h1], fun j u hu => ?_, ?_⟩
            · rcases Nat.lt_or_ge j n with hj | hj
              · rw [List.getElem?_append_left (by omega)] at hu; exact h2 j u hu
              · rw [List.getElem?_append_right (by omega)] at hu
                have : j = n := by
                  have := (List.getElem?_eq_some_iff.1 hu).1
                  simp at this; omega
                subst this
                simp [h1] at hu; subst hu; exact hv1
            · rw [List.take_succ_eq_append_getElem (by omega)]
              exact h3.append ⟨rfl, fun j q u hq hu => by
                cases j with
                | zero => simp at hq hu; subst hq; subst hu; exact hv2
                | succ j => simp at hq⟩
        obtain ⟨vs, h1, h2, h3⟩ := hc
        have hl := run_loadCells_list (P := P) g.w ad vs h2
        rw [h1] at hl
        exact ⟨ad, .agg vs.toArray, e1, by simp [loadVar, aggIs_run ha, sizeIs_run hn, hl], R_agg.2 ⟨vs, rfl, h3⟩⟩
      | false =>
        simp at h hn
        subst hn
        cases cs with
        | nil => simp at hle
        | cons q cs =>
          simp at h; subst h
          obtain ⟨v, hv1, hv2⟩ := e3 0 q (by simp)
          have h0 : ad.add 0 = ad := rfl
          rw [h0] at hv1
          exact ⟨ad, v, e1, by simp [loadVar, aggIs_run ha, hv1], hv2⟩
    · cases h
  · cases h

theorem FR.getD {g : G} {fr : List PV} {a : Act} (h : FR g fr a) (t : Nat) : R g (fr.getD t .any) (a.tmps.getD t undef) := by
  have := h.ev (.tmp t)
  exact this

theorem run_results {P : Program} {g : G} {fr : List PV} {a : Act} (hs : St g) (hf : FR g fr a) : ∀ {rv : List ResultVar} {rs : List ARes} {ps : List PV}, chkRes P rv rs = true → aress fr g.σ rs = some ps →
    ∃ vs : List Value, (rv.mapM (m := Sem) fun
      | .tmp t => pure (a.tmps.getD t undef)
      | .cell ad t => do loadVar t (← asAddr (a.tmps.getD ad undef))).run P g.w = .ok vs g.w ∧ Rs g ps vs
  | [], [], ps, hc, hp => by
    simp [aress] at hp; subst hp
    exact ⟨[], by simp, Rs.nil _⟩
  | [], _ :: _, _, hc, _ => by simp [chkRes] at hc
  | _ :: _, [], _, hc, _ => by simp [chkRes] at hc
  | x :: rv, r :: rs, ps, hc, hp => by
    simp only [aress] at hp
    split at hp
    · rename_i p qs h1 h2
      injection hp with hp; subst hp
      cases x with
      | tmp t =>
        cases r with
        | tmp t' =>
          simp [chkRes] at hc
          obtain ⟨rfl, hc⟩ := hc
          obtain ⟨vs, k1, k2⟩ := run_results hs hf hc h2
          simp [ares1] at h1
          have hg := hf.getD t
          rw [List.getD_eq_getElem?_getD, h1] at hg
          refine ⟨a.tmps.getD t undef :: vs, by simp only [List.mapM_cons, Sem.run_bind, Sem.run_pure, Result.andThen_ok, k1], ?_⟩
          exact Rs.append (ps := [p]) (cs := [_]) ⟨rfl, fun j q u hq hu => by
            cases j with
            | zero => simp at hq; subst hq; rw [List.getElem?_cons_zero] at hu; injection hu with hu; subst hu; exact hg
            | succ j => simp at hq⟩ k2
        | cell _ _ _ => simp [chkRes] at hc
      | cell ad t =>
        cases r with
        | tmp t' => simp [chkRes] at hc
        | cell ad' n agg =>
          simp only [chkRes, Bool.and_eq_true, beq_iff_eq] at hc
          obtain ⟨⟨⟨rfl, hc1⟩, hc2⟩, hc⟩ := hc
          obtain ⟨vs, k1, k2⟩ := run_results hs hf hc h2
          simp only [ares1] at h1
          obtain ⟨d, v, e1, e2, e3⟩ := run_loadVar (P := P) hs (hf.getD ad) hc1 hc2 h1
          have hh : asAddr (a.tmps.getD ad undef) = pure d := by rw [e1]; rfl
          refine ⟨v :: vs, by simp only [List.mapM_cons, Sem.run_bind, hh, Sem.run_pure, Result.andThen_ok, e2, k1], ?_⟩
          exact Rs.append (ps := [p]) (cs := [_]) ⟨rfl, fun j q u hq hu => by
            cases j with
            | zero => simp at hq hu; subst hq; subst hu; exact e3
            | succ j => simp at hq⟩ k2
    · cases hp

theorem ACall_of {P : Program} {f : FuncId} {ac : AC} {rs : List ARes} {nt : Nat} {args : List PV} {σ : List AObj} {Q : PV → List AObj → Prop} (hc : chkFn P f ac rs nt = true)
    (h : AE P σ.length ac (retA σ.length rs Q) (args ++ List.replicate (nt - args.length) .any) σ) : ACall P f args σ Q := by
  intro g vs hg hst hr
  subst hg
  unfold chkFn at hc
  split at hc
  · rename_i fn hf
    simp only [Bool.and_eq_true, beq_iff_eq] at hc
    obtain ⟨⟨⟨hn, _⟩, hres⟩, hb⟩ := hc
    split at hb
    · rename_i c hbody
      refine calls_of_wp hf hbody (wp_mono (h c hb g _ g.w rfl ⟨g.ρ, hst, Step.refl _, ?_⟩) ?_)
      · refine ⟨rfl, by simp [hn, hr.1], fun i p hp => ?_⟩
        rw [List.getElem?_append] at hp
        simp only [Array.getElem?_append, List.size_toArray]
        rw [hr.1]
        split at hp
        · rename_i hlt
          rw [if_pos hlt]
          have : i < vs.length := by rw [hr.1]; exact hlt
          exact ⟨vs[i], by simp [this], hr.2 i p _ hp (by simp [this])⟩
        · rename_i hlt
          rw [if_neg hlt]
          simp only [List.getElem?_replicate] at hp
          split at hp
          · rename_i hl
            injection hp with hp; subst hp
            exact ⟨undef, by rw [Array.getElem?_replicate, if_pos (by rw [hn]; exact hl)], R_any _ _⟩
          · cases hp
      · rintro e a w' ⟨x, fr, σ', rfl, hrel, hq⟩
        have key : (∃ fr'' σ'' ps m, g.σ.length ≤ m ∧ Imp g.σ.length fr σ' fr'' σ'' ∧ aress fr'' σ'' rs = some ps ∧ PV.bels m ps = true ∧ objsBel m (σ''.take m) = true ∧ Q (resOf ps) (σ''.take m)) →
            a.defers = [] ∧ ∃ v, (results fn a.tmps).run P w' = .ok v w' ∧ ∃ v' p σ1 ρ1, Ending.returned v = .returned v' ∧ St ⟨σ1, ρ1, w', g.h⟩ ∧ Step g ⟨σ1, ρ1, w', g.h⟩ ∧ R ⟨σ1, ρ1, w', g.h⟩ p v' ∧ Q p σ1 := by
          rintro ⟨fr2, σ2, ps, m, hm, himp, hps, hbel, hob, hQ⟩
          obtain ⟨ρ2, k1, k2, k3⟩ := himp g a w' rfl hrel
          refine ⟨k3.defers, ?_⟩
          obtain ⟨us, r1, r2⟩ := run_results (P := P) k1 k3 (rv := fn.results.toList) hres hps
          dsimp only at r1
          have hrun : (results fn a.tmps).run P w' = .ok (if h : us.toArray.size = 1 then us.toArray[0] else .tuple us.toArray) w' := by
            unfold results
            rw [Array.mapM_eq_mapM_toList]; simp only [Sem.run_bind, Sem.run_map, Sem.run_pure]
            exact congrArg (fun z => (Result.andThen z fun a w' => Result.ok a.toArray w').andThen fun a w' => Result.ok (if h : a.size = 1 then a[0] else Value.tuple a) w') r1
          refine ⟨_, hrun, _, resOf ps, σ2.take m, ρ2.take m, rfl, St.cut k1 hob, Step.cut k2 hm, ?_, hQ⟩
          have : R ⟨σ2, ρ2, w', g.h⟩ (resOf ps) (if h : us.toArray.size = 1 then us.toArray[0] else .tuple us.toArray) ∧ (resOf ps).bel m = true := by
            match ps, us, r2, hbel with
            | [p], [u], r2, hbel => exact ⟨by simpa [resOf] using r2.2 0 p u (by simp) (by simp), by simpa [resOf, PV.bels] using hbel⟩
            | [], [], r2, hbel => exact ⟨R_tup.2 ⟨[], by simp, Rs.nil _⟩, by simp [resOf, PV.bel, PV.bels]⟩
            | p :: q :: ps, u :: v :: us, r2, hbel => exact ⟨R_tup.2 ⟨u :: v :: us, by simp, r2⟩, by simpa [resOf, PV.bel] using hbel⟩
            | [], u :: us, r2, _ => have := r2.1; simp at this
            | [p], [], r2, _ => have := r2.1; simp at this
            | [p], u :: v :: us, r2, _ => have := r2.1; simp at this
            | p :: q :: ps, [], r2, _ => have := r2.1; simp at this
            | p :: q :: ps, [u], r2, _ => have := r2.1; simp at this
          exact this.1.cut this.2
        cases x with
        | exit id => exact hq.elim
        | normal => exact key hq
        | ret => exact key hq
    · cases hb
  · cases hc

end Aw
end Go.Proofs.Ytoliadfdklfmfaa

set_option linter.unusedVariables false
set_option linter.unusedSimpArgs false
namespace Go.Proofs.Ytoliadfdklfmfaa
namespace Aw

abbrev Fr := List (Nat × PV)
def look : Fr → Nat → PV
  | [], _ => .any
  | (k, v) :: l, t => if k = t then v else look l t
def put : Fr → Nat → PV → Fr
  | [], t, p => [(t, p)]
  | (k, v) :: l, t, p => if k < t then (t, p) :: (k, v) :: l else if t = k then (t, p) :: l else (k, v) :: put l t p
def kil : Fr → Nat → Fr
  | [], _ => []
  | (k, v) :: l, t => if k = t then kil l t else (k, v) :: kil l t
def kils : Fr → List Nat → Fr
  | l, [] => l
  | l, t :: ts => kils (kil l t) ts
def putD (l : Fr) (d : Option Nat) (p : PV) : Fr := match d with | some d => put l d p | none => l
/-- What an operation that is not wanted leaves. -/
def kilD (l : Fr) (d : Option Nat) : Fr := putD l d (.val undef)
/-- All slots. -/
def dn (N : Nat) (l : Fr) : List PV := (List.range N).map (look l)

theorem look_put (t : Nat) (p : PV) (u : Nat) : ∀ l : Fr, look (put l t p) u = if u = t then p else look l u
  | [] => by simp only [put, look]; split <;> split <;> simp_all
  | (k, v) :: l => by
    simp only [put]
    by_cases h1 : k < t
    · rw [if_pos h1]
      by_cases h2 : u = t
      · subst h2; simp [look]
      · have : ¬ t = u := fun e => h2 e.symm
        rw [if_neg h2]; simp only [look, if_neg this]
    · rw [if_neg h1]
      by_cases h3 : t = k
      · rw [if_pos h3]; subst h3
        by_cases h2 : u = t
        · subst h2; simp [look]
        · have : ¬ t = u := fun e => h2 e.symm
          rw [if_neg h2]; simp only [look, if_neg this]
      · rw [if_neg h3]; simp only [look, look_put t p u l]
        by_cases h2 : k = u
        · have : ¬ u = t := by omega
          rw [if_pos h2, if_neg this, if_pos h2]
        · rw [if_neg h2, if_neg h2]
theorem look_kil (t u : Nat) : ∀ l : Fr, look (kil l t) u = if u = t then .any else look l u
  | [] => by simp [kil, look]
  | (k, v) :: l => by
    simp only [kil]
    by_cases h1 : k = t
    · rw [if_pos h1, look_kil t u l]; subst h1
      by_cases h2 : u = k
      · rw [if_pos h2, if_pos h2]
      · have : ¬ k = u := fun e => h2 e.symm
        rw [if_neg h2, if_neg h2]; simp only [look, if_neg this]
    · rw [if_neg h1]; simp only [look, look_kil t u l]
      by_cases h2 : k = u
      · have : ¬ u = t := by omega
        rw [if_pos h2, if_neg this, if_pos h2]
      · rw [if_neg h2, if_neg h2]
theorem look_kils (u : Nat) : ∀ (ts : List Nat) (l : Fr), look (kils l ts) u = look l u ∨ look (kils l ts) u = .any
  | [], l => .inl rfl
  | t :: ts, l => by
    rcases look_kils u ts (kil l t) with h | h
    · simp only [kils, h, look_kil]
      split
      · exact .inr rfl
      · exact .inl rfl
    · exact .inr h
theorem dn_length (N : Nat) (l : Fr) : (dn N l).length = N := by simp [dn]
theorem dn_get (N : Nat) (l : Fr) (t : Nat) : (dn N l)[t]? = if t < N then some (look l t) else none := by
  simp only [dn, List.getElem?_map]
  rcases Nat.lt_or_ge t N with h | h
  · simp [h]
  · simp [h, Nat.not_lt.2 h]
theorem setD_dn (N : Nat) (l : Fr) (d : Option Nat) (p : PV) : setD (dn N l) d p = dn N (putD l d p) := by
  cases d with
  | none => rfl
  | some d =>
    apply List.ext_getElem?
    intro i
    simp only [setD, putD, List.getElem?_set, dn_get, look_put, dn_length]
    split
    · subst_vars; split <;> simp_all
    · rename_i h
      have : ¬ i = d := fun e => h e.symm
      simp [this]
theorem setD_dn_any (N : Nat) (l : Fr) (d : Option Nat) : setD (dn N l) d (.val undef) = dn N (kilD l d) := setD_dn N l d _
theorem aev_dn {N : Nat} {l : Fr} {t : Nat} (h : t < N) : aev (dn N l) (.tmp t) = look l t := by
  simp [aev, dn_get, h]
/-- The first slots: the arguments. -/
def frA : Nat → List PV → Fr
  | _, [] => []
  | k, p :: ps => frA (k + 1) ps ++ [(k, p)]
theorem look_append (l l' : Fr) (t : Nat) (h : ∀ v, (t, v) ∉ l) : look (l ++ l') t = look l' t := by
  induction l with
  | nil => rfl
  | cons e l ih =>
    obtain ⟨k, v⟩ := e
    have hk : ¬ k = t := fun e => h v (by simp [e])
    simp only [List.cons_append, look, if_neg hk]
    exact ih fun v hv => h v (List.mem_cons_of_mem _ hv)
theorem frA_mem {k t : Nat} {v : PV} : ∀ {args : List PV} {k : Nat}, (t, v) ∈ frA k args → k ≤ t
  | [], k, h => by simp [frA] at h
  | p :: ps, k, h => by
    simp only [frA, List.mem_append, List.mem_singleton, Prod.mk.injEq] at h
    rcases h with h | ⟨rfl, _⟩
    · have := frA_mem (k := k) h; omega
    · omega
theorem look_mem_or {t : Nat} : ∀ {l l' : Fr}, look (l ++ l') t = look l t ∨ ∀ v, (t, v) ∉ l
  | [], l' => .inr fun v h => by simp at h
  | (k, v) :: l, l' => by
    by_cases hk : k = t
    · left; simp [look, hk]
    · rcases @look_mem_or t l l' with h | h
      · left; simp only [List.cons_append, look, if_neg hk]; exact h
      · right; intro u hu
        rcases List.mem_cons.1 hu with e | hu
        · injection e with e1 e2; exact hk e1.symm
        · exact h u hu
theorem dn_init (N : Nat) (args : List PV) (h : args.length ≤ N) : args ++ List.replicate (N - args.length) .any = dn N (frA 0 args) := by
  have key : ∀ (args : List PV) (k i : Nat), look (frA k args) i = if k ≤ i then (args[i - k]?).getD .any else .any := by
    intro args
    induction args with
    | nil => intro k i; simp [look, frA]
    | cons p ps ih =>
      intro k i
      by_cases h0 : k = i
      · subst h0
        rw [frA, look_append _ _ _ fun v hv => by have := frA_mem (k := k) hv; omega]
        simp [look]
      · have e : look (frA k (p :: ps)) i = look (frA (k + 1) ps) i := by
          rw [frA]
          rcases @look_mem_or i (frA (k + 1) ps) [(k, p)] with h | h
          · exact h
          · rw [look_append _ _ _ h]
            simp only [look, if_neg h0]
            have : ∀ l : Fr, (∀ v, (i, v) ∉ l) → look l i = .any := by
              intro l
              induction l with
              | nil => intro _; rfl
              | cons e l ih2 =>
                obtain ⟨a, b⟩ := e
                intro hl
                have : ¬ a = i := fun e => hl b (by simp [e])
                simp only [look, if_neg this]
                exact ih2 fun v hv => hl v (List.mem_cons_of_mem _ hv)
            rw [this _ h]
        rw [e, ih]
        by_cases h1 : k + 1 ≤ i
        · rw [if_pos h1, if_pos (by omega)]
          have : i - k = (i - (k + 1)) + 1 := by omega
          rw [this]; simp
        · rw [if_neg h1, if_neg (by omega)]
  apply List.ext_getElem?
  intro i
  rw [dn_get, key]
  simp only [Nat.zero_le, if_true, Nat.sub_zero]
  rcases Nat.lt_or_ge i args.length with h1 | h1
  · rw [List.getElem?_append_left h1, if_pos (by omega)]
    simp [h1]
  · rw [List.getElem?_append_right h1]
    simp only [List.getElem?_replicate]
    have : args[i]? = none := List.getElem?_eq_none h1
    rw [this]
    rcases Nat.lt_or_ge i N with h2 | h2
    · rw [if_pos (by omega), if_pos h2]; rfl
    · rw [if_neg (by omega), if_neg (by omega)]

theorem Imp_weak {n N : Nat} {l l' : Fr} {σ : List AObj} (h : ∀ u, look l' u = look l u ∨ look l' u = .any) : Imp n (dn N l) σ (dn N l') σ := by
  rintro g0 a w hn ⟨ρ, h1, h2, h3⟩
  refine ⟨ρ, h1, h2, h3.defers, by rw [h3.size, dn_length, dn_length], fun i p hp => ?_⟩
  rw [dn_get] at hp
  split at hp
  · rename_i hi
    injection hp with hp; subst hp
    obtain ⟨v, k1, k2⟩ := h3.slot i (look l i) (by rw [dn_get, if_pos hi])
    rcases h i with e | e
    · exact ⟨v, k1, by rw [e]; exact k2⟩
    · exact ⟨v, k1, by rw [e]; exact R_any _ _⟩
  · cases hp

def frBel (n t : Nat) : Fr → Bool
  | [] => true
  | (k, v) :: l => (k == t || v.bel n) && frBel n t l
theorem frBel_look {n t u : Nat} : ∀ {l : Fr}, frBel n t l = true → u ≠ t → (look l u).bel n = true
  | [], _, _ => by simp [look, PV.bel]
  | (k, v) :: l, h, hu => by
    simp only [frBel, Bool.and_eq_true, Bool.or_eq_true, beq_iff_eq] at h
    simp only [look]
    split
    · subst_vars; exact h.1.resolve_left (fun e => hu e)
    · exact frBel_look h.2 hu

/-! ### Versions that begin at 0 again -/
/-- The version at which a row begins again: it still tells the block's type. -/
def nvV (v : Nat) : Nat := v / 1000000 * 1000000
theorem nvV_div (v : Nat) : nvV v / 1000000 = v / 1000000 := by unfold nvV; omega
mutual
def PV.nv (σ : List AObj) (n : Nat) : PV → PV
  | .agg ps => .agg (PV.nvs σ n ps)
  | .tup ps => .tup (PV.nvs σ n ps)
  | .fn f ps => .fn f (PV.nvs σ n ps)
  | .own id ver off len => if id < n then .own id ver off len else match σ[id]? with
    | some (.row _ _ ver') => if ver = ver' then .own id (nvV ver) off len else .any
    | none => .any
  | .ptr id ver i off => if id < n then .ptr id ver i off else match σ[id]? with
    | some (.row _ _ ver') => if ver = ver' then .ptr id (nvV ver) i off else .any
    | none => .any
  | .tl _ _ => .any
  | .any => .any
  | .val v => .val v
  | .list a b c => .list a b c
  | .fptr a b => .fptr a b
def PV.nvs (σ : List AObj) (n : Nat) : List PV → List PV
  | [] => []
  | p :: ps => PV.nv σ n p :: PV.nvs σ n ps
end
theorem PV.nvs_map (σ : List AObj) (n : Nat) : ∀ ps : List PV, PV.nvs σ n ps = ps.map (PV.nv σ n)
  | [] => rfl
  | p :: ps => by simp [PV.nvs, PV.nvs_map σ n ps]
theorem PV.nv_cells (σ : List AObj) (n : Nat) (p : PV) : (PV.nv σ n p).cells = p.cells.map (PV.nv σ n) := by
  cases p with
  | agg ps => simp [PV.nv, PV.cells, PV.nvs_map]
  | own a b c d =>
    have : ∀ q : PV, (q = .own a b c d ∨ q = .own a (nvV b) c d ∨ q = .any) → q.cells = [q] := by rintro q (rfl | rfl | rfl) <;> rfl
    show (PV.nv σ n (.own a b c d)).cells = [PV.nv σ n (.own a b c d)]
    refine this _ ?_
    simp only [PV.nv]
    split
    · exact .inl rfl
    · split
      · split
        · exact .inr (.inl rfl)
        · exact .inr (.inr rfl)
      · exact .inr (.inr rfl)
  | ptr a b c d =>
    have : ∀ q : PV, (q = .ptr a b c d ∨ q = .ptr a (nvV b) c d ∨ q = .any) → q.cells = [q] := by rintro q (rfl | rfl | rfl) <;> rfl
    show (PV.nv σ n (.ptr a b c d)).cells = [PV.nv σ n (.ptr a b c d)]
    refine this _ ?_
    simp only [PV.nv]
    split
    · exact .inl rfl
    · split
      · split
        · exact .inr (.inl rfl)
        · exact .inr (.inr rfl)
      · exact .inr (.inr rfl)
  | _ => simp [PV.nv, PV.cells]
/-- The elements of a row: where they refer to nothing they stay as they are. -/
def nvRow (σ : List AObj) (n : Nat) (es : List PV) : List PV := if PV.bels 0 es = true then es else es.map (PV.nv σ n)
def nvObj (σ : List AObj) (n i : Nat) : AObj → AObj
  | .row sz es ver => .row sz (nvRow σ n es) (if i < n then ver else nvV ver)
def nvObjs (σ : List AObj) (n : Nat) : Nat → List AObj → List AObj
  | _, [] => []
  | i, o :: os => nvObj σ n i o :: nvObjs σ n (i + 1) os
def nvFr (σ : List AObj) (n : Nat) : Fr → Fr
  | [] => []
  | (k, v) :: l => (k, PV.nv σ n v) :: nvFr σ n l

theorem nvObjs_length (σ : List AObj) (n : Nat) : ∀ (i : Nat) (os : List AObj), (nvObjs σ n i os).length = os.length
  | _, [] => rfl
  | i, o :: os => by simp [nvObjs, nvObjs_length σ n (i + 1) os]
theorem nvObjs_get (σ : List AObj) (n : Nat) : ∀ (i : Nat) (os : List AObj) (j : Nat), (nvObjs σ n i os)[j]? = (os[j]?).map (nvObj σ n (i + j))
  | _, [], j => by simp [nvObjs]
  | i, o :: os, 0 => by simp [nvObjs]
  | i, o :: os, j + 1 => by
    simp only [nvObjs, List.getElem?_cons_succ]
    rw [nvObjs_get σ n (i + 1) os j]
    have : i + 1 + j = i + (j + 1) := by omega
    rw [this]
theorem look_nvFr (σ : List AObj) (n t : Nat) : ∀ l : Fr, look (nvFr σ n l) t = PV.nv σ n (look l t)
  | [] => by simp [nvFr, look, PV.nv]
  | (k, v) :: l => by
    simp only [nvFr, look]
    split
    · rfl
    · exact look_nvFr σ n t l

/-- What refers to nothing stands in any state with the same cells. -/
theorem VR.same0 {g g' : G} (hf : ∀ b, g.frz b → g'.frz b) (hw : g'.w = g.w) : ∀ {m : Nat} {p : PV} {c : Value}, p.bel 0 = true → VR g m p c → VR g' m p c
  | 0, _, _, _, k => k.elim
  | m + 1, p, c, hb, k => by
    have ih := @VR.same0 g g' hf hw m
    cases p with
    | any => trivial
    | val v => exact k
    | agg ps =>
      simp only [VR, PV.bel] at k hb ⊢
      obtain ⟨cs, h1, h2, h3⟩ := k
      exact ⟨cs, h1, h2, fun j p v hp hv => ih (PV.bels_iff.1 hb p (List.mem_of_getElem? hp)) (h3 j p v hp hv)⟩
    | tup ps =>
      simp only [VR, PV.bel] at k hb ⊢
      obtain ⟨cs, h1, h2, h3⟩ := k
      exact ⟨cs, h1, h2, fun j p v hp hv => ih (PV.bels_iff.1 hb p (List.mem_of_getElem? hp)) (h3 j p v hp hv)⟩
    | fn f ps =>
      simp only [VR, PV.bel] at k hb ⊢
      obtain ⟨cs, h1, h2, h3⟩ := k
      exact ⟨cs, h1, h2, fun j p v hp hv => ih (PV.bels_iff.1 hb p (List.mem_of_getElem? hp)) (h3 j p v hp hv)⟩
    | list sz xs ex =>
      simp only [VR] at k ⊢
      obtain ⟨a, cap, h1, h2, h3, h4, h5, h6⟩ := k
      refine ⟨a, cap, h1, h2, h3, h4, h5, fun h0 => ?_⟩
      obtain ⟨ad, e1, e2, e3, e4⟩ := h6 h0
      refine ⟨ad, e1, e2, hf _ e3, fun j p hp => ?_⟩
      obtain ⟨v, q1, q2⟩ := e4 j p hp
      obtain ⟨x, hx, hp'⟩ := List.mem_flatMap.1 (List.mem_of_getElem? hp)
      exact ⟨v, by rw [hw]; exact q1, ih (bels_cells (h5 x hx).1 p hp') q2⟩
    | tl sz xs =>
      simp only [VR, PV.bel] at k hb ⊢
      obtain ⟨a, cap, h1, h2, h5, h6⟩ := k
      refine ⟨a, cap, h1, h2, h5, fun h0 => ?_⟩
      obtain ⟨ad, e1, e2, e3, e4⟩ := h6 h0
      refine ⟨ad, e1, e2, hf _ e3, fun j p hp => ?_⟩
      obtain ⟨v, q1, q2⟩ := e4 j p hp
      obtain ⟨x, hx, hp'⟩ := List.mem_flatMap.1 (List.mem_of_getElem? hp)
      exact ⟨v, by rw [hw]; exact q1, ih (bels_cells (PV.bels_iff.1 hb x hx) p hp') q2⟩
    | fptr cs off =>
      simp only [VR] at k ⊢
      obtain ⟨ad, e1, e2, e3, e4⟩ := k
      exact ⟨ad, e1, e2, hf _ e3, fun j p hp => let ⟨q0, v, q1, q2⟩ := e4 j p hp; ⟨q0, v, by rw [hw]; exact q1, ih q0 q2⟩⟩
    | own id ver off len => simp [PV.bel] at hb
    | ptr id ver i off => simp [PV.bel] at hb

theorem VR.nv {σ : List AObj} {ρ : List (Option Nat)} {w : World} {h : List Nat} {n : Nat} : ∀ {m : Nat} {p : PV} {c : Value}, VR ⟨σ, ρ, w, h⟩ m p c → VR ⟨nvObjs σ n 0 σ, ρ, w, h⟩ m (PV.nv σ n p) c
  | 0, _, _, k => k.elim
  | m + 1, p, c, k => by
    have ih := @VR.nv σ ρ w h n m
    have many : ∀ {ps : List PV} {cs : List Value}, (∀ (j : Nat) p v, ps[j]? = some p → cs[j]? = some v → VR ⟨σ, ρ, w, h⟩ m p v) → ∀ (j : Nat) p v, (PV.nvs σ n ps)[j]? = some p → cs[j]? = some v → VR ⟨nvObjs σ n 0 σ, ρ, w, h⟩ m p v := by
      intro ps cs h3 j p v hp hv
      rw [PV.nvs_map, List.getElem?_map, Option.map_eq_some_iff] at hp
      obtain ⟨q, hq, rfl⟩ := hp
      exact ih (h3 j q v hq hv)
    have keep : ∀ {p : PV}, p.bel 0 = true → VR ⟨σ, ρ, w, h⟩ (m + 1) p c → VR ⟨nvObjs σ n 0 σ, ρ, w, h⟩ (m + 1) p c := fun hb k => VR.same0 (g := ⟨σ, ρ, w, h⟩) (g' := ⟨nvObjs σ n 0 σ, ρ, w, h⟩) (fun b hb => hb) rfl hb k
    have get : ∀ {i sz : Nat} {es : List PV} {ver : Nat}, σ[i]? = some (.row sz es ver) → (nvObjs σ n 0 σ)[i]? = some (.row sz (nvRow σ n es) (if i < n then ver else nvV ver)) ∧ (nvRow σ n es).length = es.length := by
      intro i sz es ver ho
      refine ⟨by rw [nvObjs_get, ho]; simp [nvObj], ?_⟩
      unfold nvRow; split <;> simp
    cases p with
    | any => trivial
    | val v => exact k
    | tl a b => simp only [PV.nv]; trivial
    | list a b c => exact keep rfl k
    | fptr a b => exact keep rfl k
    | agg ps =>
      simp only [VR, PV.nv] at k ⊢
      obtain ⟨cs, h1, h2, h3⟩ := k
      exact ⟨cs, h1, by rw [PV.nvs_map]; simpa using h2, many h3⟩
    | tup ps =>
      simp only [VR, PV.nv] at k ⊢
      obtain ⟨cs, h1, h2, h3⟩ := k
      exact ⟨cs, h1, by rw [PV.nvs_map]; simpa using h2, many h3⟩
    | fn f ps =>
      simp only [VR, PV.nv] at k ⊢
      obtain ⟨cs, h1, h2, h3⟩ := k
      exact ⟨cs, h1, by rw [PV.nvs_map]; simpa using h2, many h3⟩
    | own id ver off len =>
      simp only [VR] at k
      obtain ⟨a, cap, q1, q2, sz, es, v1, h1, h2, h3⟩ := k
      obtain ⟨g1, g2⟩ := get h1
      simp only [PV.nv]
      split
      · rename_i hid
        rw [if_pos hid] at g1
        simp only [VR]
        exact ⟨a, cap, q1, q2, sz, _, v1, g1, h2, fun e => by rw [g2]; exact h3 e⟩
      · rename_i hid
        rw [if_neg hid] at g1
        rw [h1]
        simp only
        split
        · rename_i e
          simp only [VR]
          exact ⟨a, cap, q1, q2, sz, _, nvV v1, g1, by rw [e]; exact Nat.le_refl _, fun _ => by rw [g2]; exact h3 e⟩
        · trivial
    | ptr id ver i off =>
      simp only [VR] at k
      obtain ⟨ad, q0, sz, es, v1, h1, h2, h3⟩ := k
      obtain ⟨g1, g2⟩ := get h1
      simp only [PV.nv]
      split
      · rename_i hid
        rw [if_pos hid] at g1
        simp only [VR]
        exact ⟨ad, q0, sz, _, v1, g1, h2, fun e => by rw [g2]; exact h3 e⟩
      · rename_i hid
        rw [if_neg hid] at g1
        rw [h1]
        simp only
        split
        · rename_i e
          simp only [VR]
          exact ⟨ad, q0, sz, _, nvV v1, g1, by rw [e]; exact Nat.le_refl _, fun _ => by rw [g2]; exact h3 e⟩
        · trivial

theorem nvRow_cells {σ : List AObj} {n : Nat} {es : List PV} {j : Nat} {p : PV} (hp : ((nvRow σ n es).flatMap PV.cells)[j]? = some p) : ∃ q, (es.flatMap PV.cells)[j]? = some q ∧ ((p = q ∧ q.bel 0 = true) ∨ p = PV.nv σ n q) := by
  unfold nvRow at hp
  split at hp
  · rename_i hb
    refine ⟨p, hp, .inl ⟨rfl, ?_⟩⟩
    obtain ⟨x, hx, hp'⟩ := List.mem_flatMap.1 (List.mem_of_getElem? hp)
    exact bels_cells (PV.bels_iff.1 hb x hx) p hp'
  · have e : (es.map (PV.nv σ n)).flatMap PV.cells = (es.flatMap PV.cells).map (PV.nv σ n) := by
      rw [List.flatMap_map, List.map_flatMap]
      congr 1; funext x; exact PV.nv_cells σ n x
    rw [e, List.getElem?_map, Option.map_eq_some_iff] at hp
    obtain ⟨q, hq, rfl⟩ := hp
    exact ⟨q, hq, .inr rfl⟩

theorem Imp_nv {n N : Nat} {l : Fr} {σ : List AObj} : Imp n (dn N l) σ (dn N (nvFr σ n l)) (nvObjs σ n 0 σ) := by
  rintro g0 a w hn ⟨ρ, h1, h2, h3⟩
  refine ⟨ρ, ⟨h1.hid, by rw [nvObjs_length]; exact h1.len, h1.inj, fun i sz es ver ho => ?_, fun i b sz es ver ho hv hb => ?_⟩, ⟨h2.h, h2.os, h2.tape, h2.output, h2.size, h2.block, h2.own, fun i sz es ver ho => ?_⟩, h3.defers, by rw [h3.size, dn_length, dn_length], fun i p hp => ?_⟩
  · rw [nvObjs_get, Option.map_eq_some_iff] at ho
    obtain ⟨⟨sz', es', ver'⟩, ho, he⟩ := ho
    simp only [nvObj, AObj.row.injEq] at he
    obtain ⟨rfl, rfl, _⟩ := he
    rcases h1.obj i sz' es' ver' ho with ⟨b, cs, e, fr, k1, k2, k3, k4, k5, k6⟩ | ⟨k1, k2⟩
    · refine .inl ⟨b, cs, e, fr, k1, k2, k3, fun x hx => ?_, ?_, fun j p hp => ?_⟩
      · unfold nvRow at hx
        split at hx
        · exact k4 x hx
        · obtain ⟨y, hy, rfl⟩ := List.mem_map.1 hx
          rw [PV.nv_cells, List.length_map]; exact k4 y hy
      · have : (nvRow σ n es').length = es'.length := by unfold nvRow; split <;> simp
        rw [this]; exact k5
      · obtain ⟨q, hq, hpq⟩ := nvRow_cells hp
        obtain ⟨v, q1, m, q2⟩ := k6 j q hq
        rcases hpq with ⟨rfl, hb⟩ | rfl
        · exact ⟨v, q1, m, VR.same0 (g := ⟨σ, ρ, w, g0.h⟩) (g' := ⟨nvObjs σ n 0 σ, ρ, w, g0.h⟩) (fun b hb => hb) rfl hb q2⟩
        · exact ⟨v, q1, m, q2.nv⟩
    · subst k2; exact .inr ⟨k1, by simp [nvRow, PV.bels]⟩
  · rw [nvObjs_get, Option.map_eq_some_iff] at ho
    obtain ⟨⟨sz', es', ver'⟩, ho, he⟩ := ho
    simp only [nvObj, AObj.row.injEq] at he
    obtain ⟨_, _, he⟩ := he
    have hd : ver' / 1000000 = ver / 1000000 := by rw [← he]; split; rfl; exact (nvV_div _).symm
    obtain ⟨cs, fr, k⟩ := h1.ty i b _ _ _ ho (by omega) hb
    exact ⟨cs, fr, by rw [← hd]; exact k⟩
  · obtain ⟨es', ver', k1, k2, k3⟩ := h2.obj i sz es ver ho
    have hi : i < n := by rw [← hn]; exact (List.getElem?_eq_some_iff.1 ho).1
    refine ⟨nvRow σ n es', ver', by rw [nvObjs_get]; simp only at k1; rw [k1]; simp [nvObj, hi], k2, fun e => ?_⟩
    have : (nvRow σ n es').length = es'.length := by unfold nvRow; split <;> simp
    rw [this]; exact k3 e
  · rw [dn_get] at hp
    split at hp
    · rename_i hi
      injection hp with hp; subst hp
      obtain ⟨v, k1, m, k2⟩ := h3.slot i (look l i) (by rw [dn_get, if_pos hi])
      exact ⟨v, k1, m, by rw [look_nvFr]; exact k2.nv⟩
    · cases hp

/-! ### Objects at the end to which nothing refers go away -/
def frBelA (n : Nat) : Fr → Bool
  | [] => true
  | (_, v) :: l => v.bel n && frBelA n l
theorem frBelA_look {n u : Nat} : ∀ {l : Fr}, frBelA n l = true → (look l u).bel n = true
  | [], _ => by simp [look, PV.bel]
  | (k, v) :: l, h => by
    simp only [frBelA, Bool.and_eq_true] at h
    simp only [look]
    split
    · exact h.1
    · exact frBelA_look h.2
def gcOk (l : Fr) (σ : List AObj) (k : Nat) : Bool := frBelA k l && objsBel k (σ.take k)
def gcAt (l : Fr) (σ : List AObj) : Nat → Nat → Nat
  | 0, k => k
  | m + 1, k => if gcOk l σ k = true then k else gcAt l σ m (k + 1)
theorem gcAt_spec {l : Fr} {σ : List AObj} : ∀ (m k : Nat), k ≤ gcAt l σ m k ∧ (gcAt l σ m k < k + m → gcOk l σ (gcAt l σ m k) = true)
  | 0, k => ⟨Nat.le_refl _, fun h => by simp only [gcAt] at h; omega⟩
  | m + 1, k => by
    simp only [gcAt]
    split
    · rename_i h; exact ⟨Nat.le_refl _, fun _ => h⟩
    · obtain ⟨h1, h2⟩ := @gcAt_spec l σ m (k + 1)
      exact ⟨by omega, fun h => h2 (by omega)⟩
def gc (n : Nat) (l : Fr) (σ : List AObj) : List AObj := σ.take (gcAt l σ (σ.length - n) n)
theorem Imp_gc {n N : Nat} {l : Fr} {σ : List AObj} : Imp n (dn N l) σ (dn N l) (gc n l σ) := by
  unfold gc
  obtain ⟨h1, h2⟩ := @gcAt_spec l σ (σ.length - n) n
  generalize gcAt l σ (σ.length - n) n = k at h1 h2 ⊢
  by_cases hk : k < σ.length
  · have hok := h2 (by omega)
    simp only [gcOk, Bool.and_eq_true] at hok
    rintro g0 a w hn ⟨ρ, k1, k2, k3⟩
    have hcut : (G.mk σ ρ w g0.h).cut k = ⟨σ.take k, ρ.take k, w, g0.h⟩ := rfl
    refine ⟨ρ.take k, hcut ▸ k1.cut hok.2, hcut ▸ k2.cut (by omega), k3.defers, k3.size, fun i p hp => ?_⟩
    rw [dn_get] at hp
    split at hp
    · rename_i hi
      injection hp with hp; subst hp
      obtain ⟨v, e1, e2⟩ := k3.slot i (look l i) (by rw [dn_get, if_pos hi])
      exact ⟨v, e1, hcut ▸ e2.cut (frBelA_look hok.1)⟩
    · cases hp
  · rw [List.take_of_length_le (by omega)]; exact Imp.refl _ _ _

/-! ### Elements behind all references are forgotten -/
mutual
/-- How far a value reaches into an object. -/
def PV.ext (id : Nat) : PV → Nat
  | .agg ps => PV.exts id ps
  | .tup ps => PV.exts id ps
  | .fn _ ps => PV.exts id ps
  | .own id' _ off len => if id' = id then off + len else 0
  | .ptr id' _ i _ => if id' = id then i + 1 else 0
  | .tl _ xs => PV.exts id xs
  | .any => 0
  | .val _ => 0
  | .list _ _ _ => 0
  | .fptr _ _ => 0
def PV.exts (id : Nat) : List PV → Nat
  | [] => 0
  | p :: ps => max (PV.ext id p) (PV.exts id ps)
end
theorem PV.exts_le {id : Nat} : ∀ {ps : List PV} {p : PV}, p ∈ ps → p.ext id ≤ PV.exts id ps
  | [], p, h => by simp at h
  | q :: ps, p, h => by
    simp only [PV.exts]
    rcases List.mem_cons.1 h with rfl | h
    · omega
    · have := PV.exts_le (id := id) h; omega
theorem PV.exts_cells {id : Nat} {p : PV} : ∀ q ∈ p.cells, q.ext id ≤ p.ext id := by
  intro q hq
  cases p with
  | agg ps => simp only [PV.cells] at hq; simp only [PV.ext]; exact PV.exts_le hq
  | _ => simp only [PV.cells, List.mem_singleton] at hq; subst hq; exact Nat.le_refl _
def rowsExt (id : Nat) : List AObj → Nat
  | [] => 0
  | .row _ es _ :: os => max (if PV.bels 0 es = true then 0 else PV.exts id es) (rowsExt id os)
def frExt (id : Nat) : Fr → Nat
  | [] => 0
  | (_, v) :: l => max (v.ext id) (frExt id l)
def trObj (l : Fr) (σ : List AObj) (n i : Nat) : AObj → AObj
  | .row sz es ver => .row sz (if i < n then es else es.take (max (frExt i l) (rowsExt i σ))) ver
def trObjs (l : Fr) (σ : List AObj) (n : Nat) : Nat → List AObj → List AObj
  | _, [] => []
  | i, o :: os => trObj l σ n i o :: trObjs l σ n (i + 1) os
theorem trObjs_length (l : Fr) (σ : List AObj) (n : Nat) : ∀ (i : Nat) (os : List AObj), (trObjs l σ n i os).length = os.length
  | _, [] => rfl
  | i, o :: os => by simp [trObjs, trObjs_length l σ n (i + 1) os]
theorem trObjs_get (l : Fr) (σ : List AObj) (n : Nat) : ∀ (i : Nat) (os : List AObj) (j : Nat), (trObjs l σ n i os)[j]? = (os[j]?).map (trObj l σ n (i + j))
  | _, [], j => by simp [trObjs]
  | i, o :: os, 0 => by simp [trObjs]
  | i, o :: os, j + 1 => by
    simp only [trObjs, List.getElem?_cons_succ]
    rw [trObjs_get l σ n (i + 1) os j]
    have : i + 1 + j = i + (j + 1) := by omega
    rw [this]
theorem frExt_look {id t : Nat} : ∀ {l : Fr}, (look l t).ext id ≤ frExt id l
  | [] => by simp [look, PV.ext, frExt]
  | (k, v) :: l => by
    simp only [look, frExt]
    split
    · omega
    · have := @frExt_look id t l; omega
mutual
theorem PV.ext_bel0 {id : Nat} : ∀ {p : PV}, p.bel 0 = true → p.ext id = 0
  | .agg ps, h => by simp only [PV.bel] at h; simp only [PV.ext]; exact PV.exts_bel0 h
  | .tup ps, h => by simp only [PV.bel] at h; simp only [PV.ext]; exact PV.exts_bel0 h
  | .fn _ ps, h => by simp only [PV.bel] at h; simp only [PV.ext]; exact PV.exts_bel0 h
  | .own _ _ _ _, h => by simp [PV.bel] at h
  | .ptr _ _ _ _, h => by simp [PV.bel] at h
  | .tl _ xs, h => by simp only [PV.bel] at h; simp only [PV.ext]; exact PV.exts_bel0 h
  | .any, _ => by simp [PV.ext]
  | .val _, _ => by simp [PV.ext]
  | .list _ _ _, _ => by simp [PV.ext]
  | .fptr _ _, _ => by simp [PV.ext]
theorem PV.exts_bel0 {id : Nat} : ∀ {ps : List PV}, PV.bels 0 ps = true → PV.exts id ps = 0
  | [], _ => by simp [PV.exts]
  | p :: ps, h => by
    simp only [PV.bels, Bool.and_eq_true] at h
    simp only [PV.exts, PV.ext_bel0 h.1, PV.exts_bel0 h.2]; rfl
end
theorem rowsExt_get {id : Nat} : ∀ {os : List AObj} {i sz ver : Nat} {es : List PV}, os[i]? = some (.row sz es ver) → ∀ e ∈ es, e.ext id ≤ rowsExt id os
  | [], i, sz, ver, es, h, e, he => by simp at h
  | .row a b c :: os, 0, sz, ver, es, h, e, he => by
    simp at h; obtain ⟨rfl, rfl, rfl⟩ := h
    simp only [rowsExt]
    split
    · rename_i hb
      rw [PV.ext_bel0 (PV.bels_iff.1 hb e he)]; omega
    · have := PV.exts_le (id := id) he; omega
  | .row a b c :: os, i + 1, sz, ver, es, h, e, he => by
    simp at h
    have := @rowsExt_get id os i sz ver es h e he
    simp only [rowsExt]; omega

theorem VR.tr {σ : List AObj} {ρ : List (Option Nat)} {w : World} {h : List Nat} {n : Nat} {l : Fr} : ∀ {m : Nat} {p : PV} {c : Value}, (∀ id, p.ext id ≤ max (frExt id l) (rowsExt id σ)) → VR ⟨σ, ρ, w, h⟩ m p c → VR ⟨trObjs l σ n 0 σ, ρ, w, h⟩ m p c
  | 0, _, _, _, k => k.elim
  | m + 1, p, c, hx, k => by
    have ih := @VR.tr σ ρ w h n l m
    have many : ∀ {ps : List PV} {cs : List Value}, (∀ id, PV.exts id ps ≤ max (frExt id l) (rowsExt id σ)) → (∀ (j : Nat) p v, ps[j]? = some p → cs[j]? = some v → VR ⟨σ, ρ, w, h⟩ m p v) → ∀ (j : Nat) p v, ps[j]? = some p → cs[j]? = some v → VR ⟨trObjs l σ n 0 σ, ρ, w, h⟩ m p v := by
      intro ps cs hx h3 j p v hp hv
      exact ih (fun id => Nat.le_trans (PV.exts_le (List.mem_of_getElem? hp)) (hx id)) (h3 j p v hp hv)
    have keep : ∀ {p : PV}, p.bel 0 = true → VR ⟨σ, ρ, w, h⟩ (m + 1) p c → VR ⟨trObjs l σ n 0 σ, ρ, w, h⟩ (m + 1) p c := fun hb k => VR.same0 (g := ⟨σ, ρ, w, h⟩) (g' := ⟨trObjs l σ n 0 σ, ρ, w, h⟩) (fun b hb => hb) rfl hb k
    have get : ∀ {i sz : Nat} {es : List PV} {ver : Nat}, σ[i]? = some (.row sz es ver) → ∃ es', (trObjs l σ n 0 σ)[i]? = some (.row sz es' ver) ∧ ∀ k, k ≤ es.length → k ≤ max (frExt i l) (rowsExt i σ) → k ≤ es'.length := by
      intro i sz es ver ho
      refine ⟨if i < n then es else es.take (max (frExt i l) (rowsExt i σ)), by rw [trObjs_get, ho]; simp only [Option.map_some, trObj, Nat.zero_add], fun k h1 h2 => ?_⟩
      split
      · exact h1
      · rw [List.length_take]; omega
    cases p with
    | any => trivial
    | val v => exact k
    | list a b c => exact keep rfl k
    | fptr a b => exact keep rfl k
    | agg ps =>
      simp only [VR, PV.ext] at k hx ⊢
      obtain ⟨cs, h1, h2, h3⟩ := k
      exact ⟨cs, h1, h2, many hx h3⟩
    | tup ps =>
      simp only [VR, PV.ext] at k hx ⊢
      obtain ⟨cs, h1, h2, h3⟩ := k
      exact ⟨cs, h1, h2, many hx h3⟩
    | fn f ps =>
      simp only [VR, PV.ext] at k hx ⊢
      obtain ⟨cs, h1, h2, h3⟩ := k
      exact ⟨cs, h1, h2, many hx h3⟩
    | tl sz xs =>
      simp only [VR, PV.ext] at k hx ⊢
      obtain ⟨a, cap, h1, h2, h5, h6⟩ := k
      refine ⟨a, cap, h1, h2, h5, fun h0 => ?_⟩
      obtain ⟨ad, e1, e2, e3, e4⟩ := h6 h0
      refine ⟨ad, e1, e2, e3, fun j p hp => ?_⟩
      obtain ⟨v, q1, q2⟩ := e4 j p hp
      obtain ⟨x, hxm, hp'⟩ := List.mem_flatMap.1 (List.mem_of_getElem? hp)
      exact ⟨v, q1, ih (fun id => Nat.le_trans (PV.exts_cells p hp') (Nat.le_trans (PV.exts_le hxm) (hx id))) q2⟩
    | own id ver off len =>
      simp only [VR] at k ⊢
      obtain ⟨a, cap, q1, q2, sz, es, v1, h1, h2, h3⟩ := k
      obtain ⟨es', g1, g2⟩ := get h1
      have hxi := hx id
      simp only [PV.ext, if_pos] at hxi
      exact ⟨a, cap, q1, q2, sz, es', v1, g1, h2, fun e => ⟨g2 _ (h3 e).1 hxi, (h3 e).2⟩⟩
    | ptr id ver i off =>
      simp only [VR] at k ⊢
      obtain ⟨ad, q0, sz, es, v1, h1, h2, h3⟩ := k
      obtain ⟨es', g1, g2⟩ := get h1
      have hxi := hx id
      simp only [PV.ext, if_pos] at hxi
      exact ⟨ad, q0, sz, es', v1, g1, h2, fun e => ⟨g2 _ (h3 e).1 hxi, (h3 e).2⟩⟩

theorem Imp_tr {n N : Nat} {l : Fr} {σ : List AObj} : Imp n (dn N l) σ (dn N l) (trObjs l σ n 0 σ) := by
  rintro g0 a w hn ⟨ρ, h1, h2, h3⟩
  have hty : ∀ (i b : Nat) sz es ver, (trObjs l σ n 0 σ)[i]? = some (.row sz es ver) → 1000000 ≤ ver → ρ[i]? = some (some b) → ∃ cs fr, w.heap[b]? = some (.cells cs (ver / 1000000 - 1) fr) := by
    intro i b sz es ver ho hv hb
    rw [trObjs_get, Option.map_eq_some_iff] at ho
    obtain ⟨⟨sz', es', ver'⟩, ho, he⟩ := ho
    simp only [trObj, AObj.row.injEq] at he
    obtain ⟨rfl, _, rfl⟩ := he
    exact h1.ty i b _ _ _ ho hv hb
  refine ⟨ρ, ⟨h1.hid, by rw [trObjs_length]; exact h1.len, h1.inj, fun i sz es ver ho => ?_, hty⟩, ⟨h2.h, h2.os, h2.tape, h2.output, h2.size, h2.block, h2.own, fun i sz es ver ho => ?_⟩, h3.defers, h3.size, fun i p hp => ?_⟩
  · rw [trObjs_get, Option.map_eq_some_iff] at ho
    obtain ⟨⟨sz', es', ver'⟩, ho, he⟩ := ho
    simp only [trObj, AObj.row.injEq, Nat.zero_add] at he
    obtain ⟨rfl, hes, rfl⟩ := he
    have hsub : es <+: es' := by
      rw [← hes]; split
      · exact List.prefix_refl _
      · exact List.take_prefix _ _
    rcases h1.obj i sz' es' ver' ho with ⟨b, cs, e, fr, k1, k2, k3, k4, k5, k6⟩ | ⟨k1, k2⟩
    · refine .inl ⟨b, cs, e, fr, k1, k2, k3, fun x hx => k4 x (hsub.subset hx), ?_, fun j p hp => ?_⟩
      · exact Nat.le_trans (Nat.mul_le_mul_right _ hsub.length_le) k5
      · have hp' : (es'.flatMap PV.cells)[j]? = some p := by
          obtain ⟨t, rfl⟩ := hsub
          rw [List.flatMap_append, List.getElem?_append_left (List.getElem?_eq_some_iff.1 hp).1]; exact hp
        obtain ⟨v, q1, m, q2⟩ := k6 j p hp'
        refine ⟨v, q1, m, q2.tr fun id => ?_⟩
        obtain ⟨x, hx, hpx⟩ := List.mem_flatMap.1 (List.mem_of_getElem? hp')
        have a1 := PV.exts_cells (id := id) p hpx
        have a2 := rowsExt_get (id := id) ho x hx
        omega
    · subst k2
      have : es = [] := List.prefix_nil.1 hsub
      subst this; exact .inr ⟨k1, rfl⟩
  · obtain ⟨es', ver', k1, k2, k3⟩ := h2.obj i sz es ver ho
    have hi : i < n := by rw [← hn]; exact (List.getElem?_eq_some_iff.1 ho).1
    refine ⟨es', ver', by rw [trObjs_get]; simp only at k1; rw [k1]; simp [trObj, hi], k2, k3⟩
  · rw [dn_get] at hp
    split at hp
    · rename_i hi
      injection hp with hp; subst hp
      obtain ⟨v, k1, m, k2⟩ := h3.slot i (look l i) (by rw [dn_get, if_pos hi])
      exact ⟨v, k1, m, k2.tr fun id => by have := @frExt_look id i l; omega⟩
    · cases hp

/-! ### A slice that is nil, as an object without cells -/
theorem R_nil_own {g : G} {id sz ver : Nat} {a : Option Addr} (h : g.σ[id]? = some (.row sz [] ver)) (hr : g.ρ[id]? = some none) : R g (.own id ver 0 0) (.slice a 0 0) :=
  R_own.2 ⟨a, 0, rfl, Nat.le_refl _, sz, [], ver, h, Nat.le_refl _, fun _ => ⟨by simp, by rw [hr]⟩⟩
/-- Surely a slice without cells. -/
def emptyP : PV → Bool
  | .val (.slice none 0 0) => true
  | .list _ [] true => true
  | _ => false
theorem emptyP_R {g : G} {p : PV} {v : Value} (h : emptyP p = true) (hr : R g p v) : ∃ a, v = .slice a 0 0 := by
  unfold emptyP at h
  split at h
  · exact ⟨_, R_val.1 hr⟩
  · obtain ⟨a, cap, h1, _, _, h4, _⟩ := R_list.1 hr
    have := h4 rfl
    simp at this h1; subst this; exact ⟨a, h1⟩
  · cases h
theorem Step_grow {σ σ' : List AObj} {ρ : List (Option Nat)} {w : World} {h : List Nat} (hlen : ρ.length = σ.length) (hl : ∀ (i : Nat) sz es ver, σ[i]? = some (.row sz es ver) → ∃ es', σ'[i]? = some (.row sz es' ver) ∧ es'.length = es.length) :
    Step ⟨σ, ρ, w, h⟩ ⟨σ', ρ ++ [none], w, h⟩ := by
  refine ⟨rfl, rfl, rfl, rfl, Nat.le_refl _, fun _ _ _ => rfl, fun i b hi => .inr ⟨i, ?_⟩, fun i sz es ver ho => ?_⟩
  · simp only [List.getElem?_append] at hi
    split at hi
    · exact hi
    · rename_i hlt
      rcases Nat.lt_or_ge (i - ρ.length) 1 with h1 | h1
      · have : i - ρ.length = 0 := by omega
        rw [this] at hi; simp at hi
      · rw [List.getElem?_eq_none (by simpa using h1)] at hi; cases hi
  · obtain ⟨es', h1, h2⟩ := hl i sz es ver ho
    refine ⟨es', ver, h1, Nat.le_refl _, fun _ => ⟨by omega, ?_, fun _ _ => rfl⟩⟩
    have : i < ρ.length := by rw [hlen]; exact (List.getElem?_eq_some_iff.1 ho).1
    exact List.getElem?_append_left this
theorem Imp_ow {n N : Nat} {l : Fr} {σ : List AObj} {t sz : Nat} (hn : n ≤ σ.length) (ht : emptyP (look l t) = true) : Imp n (dn N l) σ (dn N (put l t (.own σ.length 0 0 0))) (σ ++ [.row sz [] 0]) := by
  rintro g0 a w hn0 ⟨ρ, h1, h2, h3⟩
  have hlen := h1.len
  simp only at hlen
  have hs : Step ⟨σ, ρ, w, g0.h⟩ ⟨σ ++ [.row sz [] 0], ρ ++ [none], w, g0.h⟩ := Step_grow hlen fun i s es ver ho => ⟨es, by rw [List.getElem?_append_left (List.getElem?_eq_some_iff.1 ho).1]; exact ho, rfl⟩
  have hty : ∀ (i b : Nat) s es ver, (σ ++ [.row sz [] 0])[i]? = some (.row s es ver) → 1000000 ≤ ver → (ρ ++ [none])[i]? = some (some b) → ∃ cs fr, w.heap[b]? = some (.cells cs (ver / 1000000 - 1) fr) := by
    intro i b s es ver ho hv hb
    rcases Nat.lt_or_ge i σ.length with hi | hi
    · rw [List.getElem?_append_left hi] at ho; rw [List.getElem?_append_left (by omega)] at hb
      exact h1.ty i b _ _ _ ho hv hb
    · rw [List.getElem?_append_right (by simpa using hi)] at ho
      rcases Nat.lt_or_ge (i - σ.length) 1 with h0 | h0
      · have e0 : i - σ.length = 0 := by omega
        rw [e0] at ho; simp at ho
        have e3 : (0 : Nat) = ver := ho.2.2
        rw [← e3] at hv; exact absurd hv (by decide)
      · rw [List.getElem?_eq_none (by simpa using h0)] at ho; cases ho
  refine ⟨ρ ++ [none], ⟨h1.hidS hs, by simp [hlen], fun i j b hi hj => ?_, fun i s es ver ho => ?_, hty⟩, h2.trans hs, h3.defers, by rw [h3.size, dn_length, dn_length], fun i p hp => ?_⟩
  · have key : ∀ (i b : Nat), (ρ ++ [none])[i]? = some (some b) → ρ[i]? = some (some b) := by
      intro i b hi
      simp only [List.getElem?_append] at hi
      split at hi
      · exact hi
      · rcases Nat.lt_or_ge (i - ρ.length) 1 with h1 | h1
        · have : i - ρ.length = 0 := by omega
          rw [this] at hi; simp at hi
        · rw [List.getElem?_eq_none (by simpa using h1)] at hi; cases hi
    exact h1.inj i j b (key _ _ hi) (key _ _ hj)
  · simp only at ho
    rcases Nat.lt_or_ge i σ.length with hi | hi
    · rw [List.getElem?_append_left hi] at ho
      rcases h1.obj i s es ver ho with ⟨b, cs, e, fr, k1, k2, k3, k4, k5, k6⟩ | ⟨k1, k2⟩
      · exact .inl ⟨b, cs, e, fr, by simp only; rw [List.getElem?_append_left (by omega)]; exact k1, k2, k3, k4, k5, fun j p hp => let ⟨v, q1, q2⟩ := k6 j p hp; ⟨v, q1, q2.step hs⟩⟩
      · exact .inr ⟨by simp only; rw [List.getElem?_append_left (by omega)]; exact k1, k2⟩
    · rw [List.getElem?_append_right hi] at ho
      rcases Nat.lt_or_ge (i - σ.length) 1 with h0 | h0
      · have e0 : i - σ.length = 0 := by omega
        rw [e0] at ho; simp at ho
        obtain ⟨rfl, rfl, rfl⟩ := ho
        refine .inr ⟨?_, rfl⟩
        simp only
        rw [List.getElem?_append_right (by omega)]
        have : i - ρ.length = 0 := by omega
        rw [this]; rfl
      · rw [List.getElem?_eq_none (by simpa using h0)] at ho; cases ho
  · rw [dn_get] at hp
    split at hp
    · rename_i hi
      injection hp with hp; subst hp
      obtain ⟨v, k1, k2⟩ := h3.slot i (look l i) (by rw [dn_get, if_pos hi])
      refine ⟨v, k1, ?_⟩
      rw [look_put]
      split
      · rename_i e
        subst e
        obtain ⟨a, rfl⟩ := emptyP_R ht k2
        exact R_nil_own (sz := sz) (by simp) (by simp only; rw [List.getElem?_append_right (by omega)]; simp [hlen])
      · exact k2.step hs
    · cases hp
theorem Imp_owc {n N : Nat} {l : Fr} {σ : List AObj} {id ver i j sz s : Nat} {es ps : List PV} (ho : σ[id]? = some (.row s es ver)) (he : es[i]? = some (.agg ps)) {p0 : PV} (hp : ps[j]? = some p0) (he0 : emptyP p0 = true) :
    Imp n (dn N l) σ (dn N l) (σ.set id (.row s (es.set i (.agg (ps.set j (.own σ.length 0 0 0)))) ver) ++ [.row sz [] 0]) := by
  rintro g0 a w hn0 ⟨ρ, h1, h2, h3⟩
  have hlen := h1.len
  simp only at hlen
  have hid : id < σ.length := (List.getElem?_eq_some_iff.1 ho).1
  have hs : Step ⟨σ, ρ, w, g0.h⟩ ⟨σ.set id (.row s (es.set i (.agg (ps.set j (.own σ.length 0 0 0)))) ver) ++ [.row sz [] 0], ρ ++ [none], w, g0.h⟩ := Step_grow hlen fun k s' es' ver' hk => by
    have hk' : k < σ.length := (List.getElem?_eq_some_iff.1 hk).1
    rw [List.getElem?_append_left (by simpa using hk')]
    by_cases e : id = k
    · subst e
      rw [ho] at hk; injection hk with hk; injection hk with e1 e2 e3; subst e1; subst e2; subst e3
      exact ⟨es.set i (.agg (ps.set j (.own σ.length 0 0 0))), List.getElem?_set_self hid, by simp⟩
    · exact ⟨es', by rw [List.getElem?_set_ne e]; exact hk, rfl⟩
  have hty : ∀ (i' b : Nat) s' es' ver', (σ.set id (.row s (es.set i (.agg (ps.set j (.own σ.length 0 0 0)))) ver) ++ [.row sz [] 0])[i']? = some (.row s' es' ver') → 1000000 ≤ ver' → (ρ ++ [none])[i']? = some (some b) → ∃ cs fr, w.heap[b]? = some (.cells cs (ver' / 1000000 - 1) fr) := by
    intro i b s' es' ver' ho' hv hb
    rcases Nat.lt_or_ge i σ.length with hi | hi
    · rw [List.getElem?_append_left (by simpa using hi)] at ho'; rw [List.getElem?_append_left (by omega)] at hb
      by_cases e : id = i
      · subst e; rw [List.getElem?_set_self hid] at ho'; injection ho' with ho'; injection ho' with e1 e2 e3; subst e3
        exact h1.ty id b _ _ _ ho hv hb
      · rw [List.getElem?_set_ne e] at ho'; exact h1.ty i b _ _ _ ho' hv hb
    · rw [List.getElem?_append_right (by simpa using hi)] at ho'
      simp only [List.length_set] at ho'
      rcases Nat.lt_or_ge (i - σ.length) 1 with h0 | h0
      · have e0 : i - σ.length = 0 := by omega
        rw [e0] at ho'; simp at ho'
        have e3 : (0 : Nat) = ver' := ho'.2.2
        rw [← e3] at hv; exact absurd hv (by decide)
      · rw [List.getElem?_eq_none (by simpa using h0)] at ho'; cases ho'
  refine ⟨ρ ++ [none], ⟨h1.hidS hs, by simp [hlen], fun i j b hi hj => ?_, fun k s' es' ver' hk => ?_, hty⟩, h2.trans hs, h3.defers, h3.size, fun i p hp => ?_⟩
  · have key : ∀ (i b : Nat), (ρ ++ [none])[i]? = some (some b) → ρ[i]? = some (some b) := by
      intro i b hi
      simp only [List.getElem?_append] at hi
      split at hi
      · exact hi
      · rcases Nat.lt_or_ge (i - ρ.length) 1 with h1 | h1
        · have : i - ρ.length = 0 := by omega
          rw [this] at hi; simp at hi
        · rw [List.getElem?_eq_none (by simpa using h1)] at hi; cases hi
    exact h1.inj i j b (key _ _ hi) (key _ _ hj)
  · simp only at hk
    rcases Nat.lt_or_ge k σ.length with hi | hi
    · rw [List.getElem?_append_left (by simpa using hi)] at hk
      by_cases e : id = k
      · subst e
        rw [List.getElem?_set_self hid] at hk
        injection hk with hk; injection hk with e1 e2 e3; subst e1; subst e2; subst e3
        rcases h1.obj id s es ver ho with ⟨b, cs, e, fr, k1, k2, k3, k4, k5, k6⟩ | ⟨k1, k2⟩
        · have hmem : PV.agg ps ∈ es := List.mem_of_getElem? he
          have hcell : ∀ x ∈ es.set i (.agg (ps.set j (.own σ.length 0 0 0))), x.cells.length = s := by
            intro x hx
            rcases List.mem_or_eq_of_mem_set hx with hx | rfl
            · exact k4 x hx
            · have := k4 _ hmem; simpa [PV.cells] using this
          refine .inl ⟨b, cs, e, fr, by simp only; rw [List.getElem?_append_left (by omega)]; exact k1, k2, k3, hcell, by simpa using k5, fun q p hq => ?_⟩
          have hspos : 0 < s := by
            have := k4 _ hmem
            simp only [PV.cells] at this
            have := (List.getElem?_eq_some_iff.1 hp).1
            omega
          rw [flat_at hspos hcell] at hq
          cases hx : (es.set i (.agg (ps.set j (.own σ.length 0 0 0))))[q / s]? with
          | none => rw [hx] at hq; simp at hq
          | some x =>
            rw [hx] at hq; simp only [Option.bind_some] at hq
            by_cases e1 : i = q / s
            · have hil : i < es.length := (List.getElem?_eq_some_iff.1 he).1
              rw [← e1, List.getElem?_set_self hil] at hx
              · injection hx with hx; subst hx
                simp only [PV.cells] at hq
                have hold : ∀ r, ps[q % s]? = some r → ∃ v, cs[q]? = some v ∧ R ⟨σ, ρ, w, g0.h⟩ r v := by
                  intro r hr
                  refine k6 q r ?_
                  rw [flat_at hspos k4, ← e1, he]; simpa [PV.cells] using hr
                by_cases e2 : j = q % s
                · rw [← e2, List.getElem?_set_self (List.getElem?_eq_some_iff.1 hp).1] at hq
                  · injection hq with hq; subst hq
                    obtain ⟨v, q1, q2⟩ := hold _ (by rw [← e2]; exact hp)
                    obtain ⟨a, rfl⟩ := emptyP_R he0 q2
                    exact ⟨_, q1, R_nil_own (sz := sz) (by simp) (by simp only; rw [List.getElem?_append_right (by omega)]; simp [hlen])⟩
                · rw [List.getElem?_set_ne e2] at hq
                  obtain ⟨v, q1, q2⟩ := hold _ hq
                  exact ⟨v, q1, q2.step hs⟩
            · rw [List.getElem?_set_ne e1] at hx
              obtain ⟨v, q1, q2⟩ := k6 q p (by rw [flat_at hspos k4, hx]; simpa using hq)
              exact ⟨v, q1, q2.step hs⟩
        · subst k2; simp at he
      · rw [List.getElem?_set_ne e] at hk
        rcases h1.obj k s' es' ver' hk with ⟨b, cs, e, fr, k1, k2, k3, k4, k5, k6⟩ | ⟨k1, k2⟩
        · exact .inl ⟨b, cs, e, fr, by simp only; rw [List.getElem?_append_left (by omega)]; exact k1, k2, k3, k4, k5, fun j p hp => let ⟨v, q1, q2⟩ := k6 j p hp; ⟨v, q1, q2.step hs⟩⟩
        · exact .inr ⟨by simp only; rw [List.getElem?_append_left (by omega)]; exact k1, k2⟩
    · rw [List.getElem?_append_right (by simpa using hi)] at hk
      simp only [List.length_set] at hk
      rcases Nat.lt_or_ge (k - σ.length) 1 with h0 | h0
      · have e0 : k - σ.length = 0 := by omega
        rw [e0] at hk; simp at hk
        obtain ⟨rfl, rfl, rfl⟩ := hk
        refine .inr ⟨?_, rfl⟩
        simp only
        rw [List.getElem?_append_right (by omega)]
        have : k - ρ.length = 0 := by omega
        rw [this]; rfl
      · rw [List.getElem?_eq_none (by simpa using h0)] at hk; cases hk
  · obtain ⟨v, k1, k2⟩ := h3.slot i p hp
    exact ⟨v, k1, k2.step hs⟩

/-- A ghost. n: how many objects there were at the function's beginning. -/
def evG (n : Nat) (l : Fr) (σ : List AObj) : Gh → Option (Fr × List AObj)
  | .kill ts => some (kils l ts, σ)
  | .nv => some (nvFr (trObjs l σ n 0 σ) n l, gc n (nvFr (trObjs l σ n 0 σ) n l) (nvObjs (trObjs l σ n 0 σ) n 0 (trObjs l σ n 0 σ)))
  | .ow t none sz => if emptyP (look l t) = true ∧ n ≤ σ.length then some (put l t (.own σ.length 0 0 0), σ ++ [.row sz [] 0]) else some (l, σ)
  | .ow t (some j) sz => match look l t with
    | .ptr id ver i 0 => match σ[id]? with
      | some (.row s es ver') => match es[i]? with
        | some (.agg ps) => match ps[j]? with
          | some p0 => if ver = ver' ∧ emptyP p0 = true then some (l, σ.set id (.row s (es.set i (.agg (ps.set j (.own σ.length 0 0 0)))) ver') ++ [.row sz [] 0]) else some (l, σ)
          | none => some (l, σ)
        | _ => some (l, σ)
      | none => some (l, σ)
    | _ => some (l, σ)
  | .fz t => match look l t with
    | .own id ver off len => match σ[id]? with
      | some (.row sz es ver') =>
        if ver = ver' ∧ n ≤ id ∧ id + 1 = σ.length ∧ len ≤ 140737488355328 ∧ PV.bels 0 es = true ∧ frBel id t l = true ∧ objsBel id (σ.take id) = true then
          some (put l t (.list sz ((es.drop off).take len) false), σ.take id) else none
      | none => none
    | _ => none

/-- An object's slice, as a list that nobody will write again: behind the object's end. -/
theorem R_froz {g : G} (hs : St g) {id ver off len sz : Nat} {es : List PV} {v : Value} (hr : R g (.own id ver off len) v) (ho : g.σ[id]? = some (.row sz es ver)) (hl : len ≤ 140737488355328) (hb : PV.bels 0 es = true) :
    R (g.cut id) (.list sz ((es.drop off).take len) false) v := by
  obtain ⟨a, cap, h1, h2, sz', es', ver', h3, h4, h5⟩ := R_own.1 hr
  rw [ho] at h3; injection h3 with h3; injection h3 with e1 e2 e3; subst e1; subst e2; subst e3
  obtain ⟨h6, h7⟩ := h5 rfl
  have hlen : ((es.drop off).take len).length = len := by simp; omega
  refine R_list.2 ⟨a, cap, by rw [hlen]; exact h1, ⟨by rw [hlen]; exact h2, fun hn => own_none h7 hn⟩, by rw [hlen]; omega, by simp, fun x hx => ?_, fun h0 => ?_⟩
  · have hx' : x ∈ es := List.mem_of_mem_drop (List.mem_of_mem_take hx)
    refine ⟨PV.bels_iff.1 hb x hx', ?_⟩
    rcases hs.obj id sz es ver ho with ⟨b, cs, e, fr, k1, k2, k3, k4, k5, k6⟩ | ⟨k1, k2⟩
    · exact k4 x hx'
    · subst k2; simp at hx'
  · rw [hlen] at h0
    rcases hs.obj id sz es ver ho with ⟨b, cs, e, fr, k1, k2, k3, k4, k5, k6⟩ | ⟨k1, k2⟩
    · rw [k1] at h7
      obtain ⟨h8, s, h9, h10⟩ := h7
      refine ⟨⟨b, off * sz, none⟩, h8 (by omega), rfl, ⟨?_, fun i hi => ?_, hs.hid.2 id b k1⟩, fun j p hp => ?_⟩
      · exact hs.block_lt k1
      · simp only [G.cut, List.getElem?_take] at hi
        split at hi
        · have := hs.inj i id b hi k1; omega
        · cases hi
      · rw [flat_take_drop k4 off len h6, List.getElem?_take] at hp
        split at hp
        · rw [List.getElem?_drop] at hp
          obtain ⟨u, q1, q2⟩ := k6 (off * sz + j) p hp
          refine ⟨u, ?_, q2.cut ?_⟩
          · show g.w.cell? _ = _
            rw [addr_add_mk]
            simp [World.cell?, k2, q1]
          · obtain ⟨x, hx, hp'⟩ := List.mem_flatMap.1 (List.mem_of_getElem? hp)
            exact PV.bel_le (Nat.zero_le _) (bels_cells (PV.bels_iff.1 hb x hx) p hp')
        · cases hp
    · subst k2; simp at hlen; omega

theorem evG_sound {n N : Nat} {l l' : Fr} {σ σ' : List AObj} {gh : Gh} (h : evG n l σ gh = some (l', σ')) : Imp n (dn N l) σ (dn N l') σ' := by
  cases gh with
  | kill ts =>
    simp only [evG, Option.some.injEq, Prod.mk.injEq] at h
    obtain ⟨rfl, rfl⟩ := h
    exact Imp_weak fun u => look_kils u ts l
  | nv =>
    simp only [evG, Option.some.injEq, Prod.mk.injEq] at h
    obtain ⟨rfl, rfl⟩ := h
    exact Imp_tr.trans (Imp_nv.trans Imp_gc)
  | ow t j sz =>
    cases j with
    | none =>
      simp only [evG] at h
      split at h
      · rename_i ht
        simp only [Option.some.injEq, Prod.mk.injEq] at h
        obtain ⟨rfl, rfl⟩ := h
        exact Imp_ow ht.2 ht.1
      · simp only [Option.some.injEq, Prod.mk.injEq] at h
        obtain ⟨rfl, rfl⟩ := h
        exact Imp.refl _ _ _
    | some j =>
      have same : (l, σ) = (l', σ') → Imp n (dn N l) σ (dn N l') σ' := by
        intro h
        simp only [Prod.mk.injEq] at h
        obtain ⟨rfl, rfl⟩ := h
        exact Imp.refl _ _ _
      simp only [evG] at h
      split at h
      · split at h
        · rename_i ho
          split at h
          · rename_i he
            split at h
            · rename_i hp
              split at h
              · rename_i hc
                simp only [Option.some.injEq, Prod.mk.injEq] at h
                obtain ⟨rfl, rfl⟩ := h
                exact Imp_owc ho he hp hc.2
              · exact same (by simpa using h)
            · exact same (by simpa using h)
          · exact same (by simpa using h)
        · exact same (by simpa using h)
      · exact same (by simpa using h)
  | fz t =>
    simp only [evG] at h
    split at h
    · rename_i id ver off len hlk
      split at h
      · rename_i sz es ver' ho
        split at h
        · rename_i hc
          obtain ⟨rfl, c1, c2, c3, c4, c5, c6⟩ := hc
          injection h with h; injection h with e1 e2; subst e1; subst e2
          rintro g0 a w hn ⟨ρ, h1, h2, h3⟩
          have hcut : (G.mk σ ρ w g0.h).cut id = ⟨σ.take id, ρ.take id, w, g0.h⟩ := rfl
          refine ⟨ρ.take id, hcut ▸ h1.cut c6, hcut ▸ h2.cut (by omega), h3.defers, by rw [h3.size, dn_length, dn_length], fun i p hp => ?_⟩
          rw [dn_get] at hp
          split at hp
          · rename_i hi
            injection hp with hp; subst hp
            obtain ⟨v, k1, k2⟩ := h3.slot i (look l i) (by rw [dn_get, if_pos hi])
            refine ⟨v, k1, ?_⟩
            rw [look_put]
            split
            · subst_vars; rw [hlk] at k2; exact R_froz h1 k2 ho c3 c4
            · rename_i hne; exact k2.cut (frBel_look c5 hne)
          · cases hp
        · cases h
      · cases h
    · cases h

end Aw
end Go.Proofs.Ytoliadfdklfmfaa

set_option linter.unusedVariables false
set_option linter.unusedSimpArgs false
namespace Go.Proofs.Ytoliadfdklfmfaa
namespace Aw

def mapO {α β : Type} (f : α → Option β) : List α → Option (List β)
  | [] => some []
  | x :: xs => match f x, mapO f xs with
    | some y, some ys => some (y :: ys)
    | _, _ => none
theorem mapO_spec {α β : Type} {f : α → Option β} : ∀ {xs : List α} {ys : List β}, mapO f xs = some ys → ys.length = xs.length ∧ ∀ (j : Nat) y, ys[j]? = some y → ∃ x, xs[j]? = some x ∧ f x = some y
  | [], ys, h => by simp [mapO] at h; subst h; exact ⟨rfl, fun j y hy => by simp at hy⟩
  | x :: xs, ys, h => by
    simp only [mapO] at h
    split at h
    · rename_i y ys' h1 h2
      injection h with h; subst h
      obtain ⟨k1, k2⟩ := mapO_spec h2
      refine ⟨by simp [k1], fun j z hz => ?_⟩
      cases j with
      | zero => simp at hz; subst hz; exact ⟨x, by simp, h1⟩
      | succ j => simp at hz; simpa using k2 j z hz
    · cases h

/-- What is owned, as it would be if nobody wrote it again. -/
def dfr (σ : List AObj) : Nat → PV → Option PV
  | 0, _ => none
  | d + 1, .own id ver off len => match σ[id]? with
    | some (.row sz es ver') => if ver = ver' ∧ len ≤ 140737488355328 then (mapO (dfr σ d) ((es.drop off).take len)).map fun xs => .list sz xs false else none
    | none => none
  | d + 1, .ptr id ver i off => match σ[id]? with
    | some (.row sz es ver') => if ver = ver' then (match es[i]? with | some e => (mapO (dfr σ d) e.cells).map fun cs => .fptr cs off | none => none) else none
    | none => none
  | d + 1, .agg ps => (mapO (dfr σ d) ps).map .agg
  | d + 1, .tup ps => (mapO (dfr σ d) ps).map .tup
  | d + 1, .fn f ps => (mapO (dfr σ d) ps).map (.fn f)
  | _ + 1, .tl _ _ => none
  | d + 1, p => some p

theorem dfr_cells {σ : List AObj} : ∀ {d : Nat} {p q : PV}, dfr σ (d + 1) p = some q → q.cells.length = p.cells.length ∧ (∀ (j : Nat) r, q.cells[j]? = some r → ∃ s, p.cells[j]? = some s ∧ ∃ d', d ≤ d' ∧ d' ≤ d + 1 ∧ dfr σ d' s = some r) := by
  intro d p q h
  have other : ∀ {p q : PV}, p.cells = [p] → q.cells = [q] → dfr σ (d + 1) p = some q → q.cells.length = p.cells.length ∧ (∀ (j : Nat) r, q.cells[j]? = some r → ∃ s, p.cells[j]? = some s ∧ ∃ d', d ≤ d' ∧ d' ≤ d + 1 ∧ dfr σ d' s = some r) := by
    intro p q hp hq h
    rw [hp, hq]
    refine ⟨rfl, fun j r hr => ?_⟩
    cases j with
    | zero => simp at hr; subst hr; exact ⟨p, by simp, d + 1, by omega, by omega, h⟩
    | succ j => simp at hr
  cases p with
  | agg ps =>
    simp only [dfr, Option.map_eq_some_iff] at h
    obtain ⟨qs, h1, rfl⟩ := h
    obtain ⟨k1, k2⟩ := mapO_spec h1
    exact ⟨k1, fun j r hr => let ⟨s, e1, e2⟩ := k2 j r hr; ⟨s, e1, d, by omega, by omega, e2⟩⟩
  | any => simp only [dfr, Option.some.injEq] at h; subst h; exact other rfl rfl rfl
  | val v => simp only [dfr, Option.some.injEq] at h; subst h; exact other rfl rfl rfl
  | list a b c => simp only [dfr, Option.some.injEq] at h; subst h; exact other rfl rfl rfl
  | fptr a b => simp only [dfr, Option.some.injEq] at h; subst h; exact other rfl rfl rfl
  | tl a b => simp [dfr] at h
  | tup ps =>
    have h' := h
    simp only [dfr, Option.map_eq_some_iff] at h; obtain ⟨qs, h1, rfl⟩ := h; exact other rfl rfl h'
  | fn f ps =>
    have h' := h
    simp only [dfr, Option.map_eq_some_iff] at h; obtain ⟨qs, h1, rfl⟩ := h; exact other rfl rfl h'
  | own id ver off len =>
    have h' := h
    simp only [dfr] at h
    split at h
    · split at h
      · simp only [Option.map_eq_some_iff] at h; obtain ⟨qs, h1, rfl⟩ := h; exact other rfl rfl h'
      · cases h
    · cases h
  | ptr id ver i off =>
    have h' := h
    simp only [dfr] at h
    split at h
    · split at h
      · split at h
        · simp only [Option.map_eq_some_iff] at h; obtain ⟨qs, h1, rfl⟩ := h; exact other rfl rfl h'
        · cases h
      · cases h
    · cases h

theorem dfr_bel {σ : List AObj} : ∀ {d : Nat} {p q : PV}, dfr σ d p = some q → q.bel 0 = true
  | 0, _, _, h => by simp [dfr] at h
  | d + 1, p, q, h => by
    have ih := @dfr_bel σ d
    have many : ∀ {ps qs : List PV}, mapO (dfr σ d) ps = some qs → PV.bels 0 qs = true := fun h => PV.bels_iff.2 fun q hq => by
      obtain ⟨j, hj⟩ := List.mem_iff_getElem?.1 hq
      obtain ⟨x, _, hx⟩ := (mapO_spec h).2 j q hj
      exact ih hx
    cases p with
    | agg ps => simp only [dfr, Option.map_eq_some_iff] at h; obtain ⟨qs, h1, rfl⟩ := h; simp only [PV.bel]; exact many h1
    | tup ps => simp only [dfr, Option.map_eq_some_iff] at h; obtain ⟨qs, h1, rfl⟩ := h; simp only [PV.bel]; exact many h1
    | fn f ps => simp only [dfr, Option.map_eq_some_iff] at h; obtain ⟨qs, h1, rfl⟩ := h; simp only [PV.bel]; exact many h1
    | any => simp only [dfr, Option.some.injEq] at h; subst h; rfl
    | val v => simp only [dfr, Option.some.injEq] at h; subst h; rfl
    | list a b c => simp only [dfr, Option.some.injEq] at h; subst h; rfl
    | fptr a b => simp only [dfr, Option.some.injEq] at h; subst h; rfl
    | tl a b => simp [dfr] at h
    | own id ver off len =>
      simp only [dfr] at h
      split at h
      · split at h
        · simp only [Option.map_eq_some_iff] at h; obtain ⟨qs, h1, rfl⟩ := h; rfl
        · cases h
      · cases h
    | ptr id ver i off =>
      simp only [dfr] at h
      split at h
      · split at h
        · split at h
          · simp only [Option.map_eq_some_iff] at h; obtain ⟨qs, h1, rfl⟩ := h; rfl
          · cases h
        · cases h
      · cases h

/-- The state without objects: nobody will write anything again, but for what is out of sight. -/
def G.none (g : G) : G := ⟨[], [], g.w, g.h⟩
theorem G.frz_none {g : G} {b : Nat} (h : g.frz b) : g.none.frz b := ⟨h.1, fun i hi => by simp [G.none] at hi, h.2.2⟩
theorem VR.none {g : G} : ∀ {m : Nat} {p : PV} {c : Value}, p.bel 0 = true → VR g m p c → VR g.none m p c
  | 0, _, _, _, k => k.elim
  | m + 1, p, c, hb, k => by
    have ih := @VR.none g m
    cases p with
    | any => trivial
    | val v => exact k
    | agg ps =>
      simp only [VR, PV.bel] at k hb ⊢
      obtain ⟨cs, h1, h2, h3⟩ := k
      exact ⟨cs, h1, h2, fun j p v hp hv => ih (PV.bels_iff.1 hb p (List.mem_of_getElem? hp)) (h3 j p v hp hv)⟩
    | tup ps =>
      simp only [VR, PV.bel] at k hb ⊢
      obtain ⟨cs, h1, h2, h3⟩ := k
      exact ⟨cs, h1, h2, fun j p v hp hv => ih (PV.bels_iff.1 hb p (List.mem_of_getElem? hp)) (h3 j p v hp hv)⟩
    | list sz xs ex =>
      simp only [VR] at k ⊢
      obtain ⟨a, cap, h1, h2, h3, h4, h5, h6⟩ := k
      refine ⟨a, cap, h1, h2, h3, h4, h5, fun h0 => ?_⟩
      obtain ⟨ad, e1, e2, e3, e4⟩ := h6 h0
      refine ⟨ad, e1, e2, G.frz_none e3, fun j p hp => ?_⟩
      obtain ⟨v, q1, q2⟩ := e4 j p hp
      refine ⟨v, q1, ih ?_ q2⟩
      obtain ⟨x, hx, hp'⟩ := List.mem_flatMap.1 (List.mem_of_getElem? hp)
      exact bels_cells (h5 x hx).1 p hp'
    | tl sz xs =>
      simp only [VR, PV.bel] at k hb ⊢
      obtain ⟨a, cap, h1, h2, h3, h6⟩ := k
      refine ⟨a, cap, h1, h2, h3, fun h0 => ?_⟩
      obtain ⟨ad, e1, e2, e3, e4⟩ := h6 h0
      refine ⟨ad, e1, e2, G.frz_none e3, fun j p hp => ?_⟩
      obtain ⟨v, q1, q2⟩ := e4 j p hp
      refine ⟨v, q1, ih ?_ q2⟩
      obtain ⟨x, hx, hp'⟩ := List.mem_flatMap.1 (List.mem_of_getElem? hp)
      exact bels_cells (PV.bels_iff.1 hb x hx) p hp'
    | fptr cs off =>
      simp only [VR] at k ⊢
      obtain ⟨ad, e1, e2, e3, e4⟩ := k
      exact ⟨ad, e1, e2, G.frz_none e3, fun j p hp => let ⟨q0, v, q1, q2⟩ := e4 j p hp; ⟨q0, v, q1, ih q0 q2⟩⟩
    | own id ver off len => simp [PV.bel] at hb
    | ptr id ver i off => simp [PV.bel] at hb
    | fn f caps =>
      simp only [VR, PV.bel] at k hb ⊢
      obtain ⟨cs, h1, h2, h3⟩ := k
      exact ⟨cs, h1, h2, fun j p v hp hv => ih (PV.bels_iff.1 hb p (List.mem_of_getElem? hp)) (h3 j p v hp hv)⟩
theorem R.none {g : G} {p : PV} {c : Value} (hb : p.bel 0 = true) (h : R g p c) : R g.none p c := let ⟨m, h⟩ := h; ⟨m, h.none hb⟩

theorem dfr_sound {g : G} (hs : St g) : ∀ {d : Nat} {p q : PV} {v : Value}, R g p v → dfr g.σ d p = some q → R g.none q v
  | 0, _, _, _, _, h => by simp [dfr] at h
  | d + 1, p, q, v, hr, h => by
    have ih := @dfr_sound g hs d
    have many : ∀ {ps qs : List PV} {cs : List Value}, Rs g ps cs → mapO (dfr g.σ d) ps = some qs → Rs g.none qs cs := by
      intro ps qs cs hr h
      obtain ⟨k1, k2⟩ := mapO_spec h
      refine ⟨by rw [k1]; exact hr.1, fun j p v hp hv => ?_⟩
      obtain ⟨x, e1, e2⟩ := k2 j p hp
      exact ih (hr.2 j x v e1 hv) e2
    have same : ∀ {p : PV}, p.bel 0 = true → R g p v → R g.none p v := fun hb hr => hr.none hb
    cases p with
    | any => simp only [dfr, Option.some.injEq] at h; subst h; exact R_any _ _
    | val u => simp only [dfr, Option.some.injEq] at h; subst h; exact same rfl hr
    | list a b c => simp only [dfr, Option.some.injEq] at h; subst h; exact same rfl hr
    | fptr a b => simp only [dfr, Option.some.injEq] at h; subst h; exact same rfl hr
    | agg ps =>
      simp only [dfr, Option.map_eq_some_iff] at h; obtain ⟨qs, h1, rfl⟩ := h
      obtain ⟨cs, e1, e2⟩ := R_agg.1 hr
      exact R_agg.2 ⟨cs, e1, many e2 h1⟩
    | tup ps =>
      simp only [dfr, Option.map_eq_some_iff] at h; obtain ⟨qs, h1, rfl⟩ := h
      obtain ⟨cs, e1, e2⟩ := R_tup.1 hr
      exact R_tup.2 ⟨cs, e1, many e2 h1⟩
    | fn f ps =>
      simp only [dfr, Option.map_eq_some_iff] at h; obtain ⟨qs, h1, rfl⟩ := h
      obtain ⟨cs, e1, e2⟩ := R_fn.1 hr
      exact R_fn.2 ⟨cs, e1, many e2 h1⟩
    | tl a b => simp [dfr] at h
    | own id ver off len =>
      simp only [dfr] at h
      split at h
      · rename_i sz es ver' ho
        split at h
        · rename_i hc
          obtain ⟨rfl, hl⟩ := hc
          simp only [Option.map_eq_some_iff] at h; obtain ⟨qs, h1, rfl⟩ := h
          obtain ⟨a, cap, q1, q2, sz', es', ver', k3, k4, k5⟩ := R_own.1 hr
          rw [ho] at k3; injection k3 with k3; injection k3 with e1 e2 e3; subst e1; subst e2; subst e3
          obtain ⟨k6, k7⟩ := k5 rfl
          obtain ⟨m1, m2⟩ := mapO_spec h1
          have hlen : ((es.drop off).take len).length = len := by simp; omega
          rw [hlen] at m1
          refine R_list.2 ⟨a, cap, by rw [m1]; exact q1, ⟨by rw [m1]; exact q2, fun hn => own_none k7 hn⟩, by rw [m1]; omega, by simp, fun x hx => ?_, fun h0 => ?_⟩
          · obtain ⟨j, hj⟩ := List.mem_iff_getElem?.1 hx
            obtain ⟨y, hy1, hy2⟩ := m2 j x hj
            refine ⟨dfr_bel hy2, ?_⟩
            have hy' : y ∈ es := List.mem_of_mem_drop (List.mem_of_mem_take (List.mem_of_getElem? hy1))
            cases d with
            | zero => simp [dfr] at hy2
            | succ d =>
              rw [(dfr_cells hy2).1]
              rcases hs.obj id sz es ver ho with ⟨b, cs, e, fr, n1, n2, n3, n4, n5, n6⟩ | ⟨n1, n2⟩
              · exact n4 y hy'
              · subst n2; simp at hy'
          · rw [m1] at h0
            rcases hs.obj id sz es ver ho with ⟨b, cs, e, fr, n1, n2, n3, n4, n5, n6⟩ | ⟨n1, n2⟩
            · rw [n1] at k7
              obtain ⟨h8, s, h9, h10⟩ := k7
              refine ⟨⟨b, off * sz, none⟩, h8 (by omega), rfl, ⟨hs.block_lt n1, fun i hi => by simp [G.none] at hi, hs.hid.2 id b n1⟩, fun j p hp => ?_⟩
              -- the cell j belongs to an element
              have hq : ∀ x ∈ qs, x.cells.length = sz := by
                intro x hx
                obtain ⟨j, hj⟩ := List.mem_iff_getElem?.1 hx
                obtain ⟨y, hy1, hy2⟩ := m2 j x hj
                have hy' : y ∈ es := List.mem_of_mem_drop (List.mem_of_mem_take (List.mem_of_getElem? hy1))
                cases d with
                | zero => simp [dfr] at hy2
                | succ d => rw [(dfr_cells hy2).1]; exact n4 y hy'
              have hsz : 0 < sz := by
                rcases Nat.eq_zero_or_pos sz with h0 | h0
                · have := flat_length hq; rw [h0, Nat.mul_zero] at this
                  rw [List.eq_nil_of_length_eq_zero this] at hp; simp at hp
                · exact h0
              rw [flat_at hsz hq] at hp
              cases hqj : qs[j / sz]? with
              | none => rw [hqj] at hp; simp at hp
              | some x =>
                rw [hqj] at hp; simp only [Option.bind_some] at hp
                obtain ⟨y, hy1, hy2⟩ := m2 _ x hqj
                cases d with
                | zero => simp [dfr] at hy2
                | succ d =>
                  obtain ⟨s', hs1, d', hd1, hd2, hs2⟩ := (dfr_cells hy2).2 _ p hp
                  rw [List.getElem?_take] at hy1
                  split at hy1
                  · rw [List.getElem?_drop] at hy1
                    have hflat : (es.flatMap PV.cells)[off * sz + j]? = some s' := by
                      have hmod : j % sz < sz := Nat.mod_lt _ hsz
                      have := flat_get n4 hy1 hmod
                      rw [hs1] at this
                      rw [← this]
                      congr 1
                      rw [Nat.add_mul]
                      have := Nat.div_add_mod j sz
                      rw [Nat.mul_comm] at this
                      omega
                    obtain ⟨u, hu1, hu2⟩ := n6 _ _ hflat
                    refine ⟨u, ?_, ?_⟩
                    · show g.w.cell? _ = _
                      rw [addr_add_mk]
                      simp [World.cell?, n2, hu1]
                    · have : d' = d + 1 ∨ d' = d := by omega
                      rcases this with rfl | rfl
                      · exact ih hu2 hs2
                      · exact dfr_sound hs hu2 hs2
                  · cases hy1
            · subst n2; simp at hlen; omega
        · cases h
      · cases h
    | ptr id ver i off =>
      simp only [dfr] at h
      split at h
      · rename_i sz es ver' ho
        split at h
        · rename_i hc
          subst hc
          split at h
          · rename_i e he
            simp only [Option.map_eq_some_iff] at h; obtain ⟨qs, h1, rfl⟩ := h
            obtain ⟨ad, q0, sz', es', ver', k3, k4, k5⟩ := R_ptr.1 hr
            rw [ho] at k3; injection k3 with k3; injection k3 with e1 e2 e3; subst e1; subst e2; subst e3
            obtain ⟨k6, b, k7, k8⟩ := k5 rfl
            rcases hs.obj id sz es ver ho with ⟨b', cs, ety, fr, n1, n2, n3, n4, n5, n6⟩ | ⟨n1, n2⟩
            · rw [n1] at k7; injection k7 with k7; injection k7 with k7; subst k7
              refine R_fptr.2 ⟨⟨b', i * sz, none⟩, by rw [addr_add_mk, q0, k8], rfl, ⟨hs.block_lt n1, fun i hi => by simp [G.none] at hi, hs.hid.2 id b' n1⟩, fun j p hp => ?_⟩
              obtain ⟨m1, m2⟩ := mapO_spec h1
              obtain ⟨y, hy1, hy2⟩ := m2 j p hp
              refine ⟨dfr_bel hy2, ?_⟩
              have hj : j < sz := by rw [← n4 e (List.mem_of_getElem? he)]; exact (List.getElem?_eq_some_iff.1 hy1).1
              have := flat_get n4 he hj
              rw [hy1] at this
              obtain ⟨u, hu1, hu2⟩ := n6 _ _ this
              refine ⟨u, ?_, ih hu2 hy2⟩
              show g.w.cell? _ = _
              rw [addr_add_mk]
              simp [World.cell?, n2, hu1]
            · subst n2; simp at he
          · cases h
        · cases h
      · cases h
  termination_by d => d

end Aw
end Go.Proofs.Ytoliadfdklfmfaa

set_option linter.unusedVariables false
set_option linter.unusedSimpArgs false
namespace Go.Proofs.Ytoliadfdklfmfaa
namespace Aw

mutual
/-- The same, its objects counted from k on. -/
def PV.sh (k : Nat) : PV → PV
  | .agg ps => .agg (PV.shs k ps)
  | .tup ps => .tup (PV.shs k ps)
  | .fn f ps => .fn f (PV.shs k ps)
  | .own id ver off len => .own (id + k) ver off len
  | .ptr id ver i off => .ptr (id + k) ver i off
  | .any => .any
  | .val v => .val v
  | .list a b c => .list a b c
  | .fptr a b => .fptr a b
  | .tl sz xs => .tl sz (PV.shs k xs)
def PV.shs (k : Nat) : List PV → List PV
  | [] => []
  | p :: ps => PV.sh k p :: PV.shs k ps
end
theorem PV.shs_map (k : Nat) : ∀ ps : List PV, PV.shs k ps = ps.map (PV.sh k)
  | [] => rfl
  | p :: ps => by simp [PV.shs, PV.shs_map k ps]
mutual
/-- No memory in it but objects of the state. -/
def PV.nl : PV → Bool
  | .agg ps => PV.nls ps
  | .tup ps => PV.nls ps
  | .fn f ps => PV.nls ps
  | .own _ _ _ _ => true
  | .ptr _ _ _ _ => true
  | .any => true
  | .val _ => true
  | .list _ xs _ => xs.isEmpty
  | .fptr _ _ => false
  | .tl _ _ => false
def PV.nls : List PV → Bool
  | [] => true
  | p :: ps => PV.nl p && PV.nls ps
end
theorem PV.nls_iff : ∀ {ps : List PV}, PV.nls ps = true ↔ ∀ p ∈ ps, p.nl = true
  | [] => by simp [PV.nls]
  | p :: ps => by simp [PV.nls, PV.nls_iff (ps := ps)]
mutual
theorem PV.sh_bel0 (k : Nat) : ∀ {p : PV}, p.bel 0 = true → p.sh k = p
  | .agg ps, h => by simp only [PV.bel] at h; simp only [PV.sh, PV.shs_bel0 k h]
  | .tup ps, h => by simp only [PV.bel] at h; simp only [PV.sh, PV.shs_bel0 k h]
  | .fn f ps, h => by simp only [PV.bel] at h; simp only [PV.sh, PV.shs_bel0 k h]
  | .own _ _ _ _, h => by simp [PV.bel] at h
  | .ptr _ _ _ _, h => by simp [PV.bel] at h
  | .any, _ => by simp [PV.sh]
  | .val _, _ => by simp [PV.sh]
  | .list _ _ _, _ => by simp [PV.sh]
  | .fptr _ _, _ => by simp [PV.sh]
  | .tl _ xs, h => by simp only [PV.bel] at h; simp only [PV.sh, PV.shs_bel0 k h]
theorem PV.shs_bel0 (k : Nat) : ∀ {ps : List PV}, PV.bels 0 ps = true → PV.shs k ps = ps
  | [], _ => by simp [PV.shs]
  | p :: ps, h => by
    simp only [PV.bels, Bool.and_eq_true] at h
    simp only [PV.shs, PV.sh_bel0 k h.1, PV.shs_bel0 k h.2]
end
theorem PV.sh_cells (k : Nat) (p : PV) : (p.sh k).cells = p.cells.map (PV.sh k) := by
  cases p <;> simp [PV.sh, PV.cells, PV.shs_map]
def AObj.sh (k : Nat) : AObj → AObj
  | .row sz es ver => .row sz (PV.shs k es) ver
def AObj.nl : AObj → Bool
  | .row sz es ver => PV.nls es

theorem VR.sh {g1 g2 : G} {k : Nat} {full : Bool} (hσ : ∀ (i : Nat) sz es ver, g1.σ[i]? = some (.row sz es ver) → g2.σ[i + k]? = some (.row sz (PV.shs k es) ver))
    (hρ : ∀ i, i < g1.σ.length → g2.ρ[i + k]? = g1.ρ[i]?) (hw : g2.w = g1.w) (hf : full = true → ∀ b, g1.frz b → g2.frz b) :
    ∀ {m : Nat} {p : PV} {c : Value}, (full = false → p.nl = true) → VR g1 m p c → VR g2 m (p.sh k) c
  | 0, _, _, _, h => h.elim
  | m + 1, p, c, hn, h => by
    have ih := @VR.sh g1 g2 k full hσ hρ hw hf m
    have shj : ∀ {ps : List PV} {j : Nat} {q : PV}, (PV.shs k ps)[j]? = some q → ∃ p, ps[j]? = some p ∧ q = p.sh k := by
      intro ps j q hq
      rw [PV.shs_map, List.getElem?_map] at hq
      cases hp : ps[j]? with
      | none => rw [hp] at hq; simp at hq
      | some p => rw [hp] at hq; simp at hq; exact ⟨p, rfl, hq.symm⟩
    have lenS : ∀ ps : List PV, (PV.shs k ps).length = ps.length := fun ps => by rw [PV.shs_map]; simp
    cases p with
    | any => simp only [PV.sh]; trivial
    | val v => simp only [PV.sh]; exact h
    | agg ps =>
      simp only [PV.sh, VR, PV.nl] at h hn ⊢
      obtain ⟨cs, h1, h2, h3⟩ := h
      refine ⟨cs, h1, by rw [lenS]; exact h2, fun j q v hq hv => ?_⟩
      obtain ⟨p, hp, rfl⟩ := shj hq
      exact ih (fun e => PV.nls_iff.1 (hn e) p (List.mem_of_getElem? hp)) (h3 j p v hp hv)
    | tup ps =>
      simp only [PV.sh, VR, PV.nl] at h hn ⊢
      obtain ⟨cs, h1, h2, h3⟩ := h
      refine ⟨cs, h1, by rw [lenS]; exact h2, fun j q v hq hv => ?_⟩
      obtain ⟨p, hp, rfl⟩ := shj hq
      exact ih (fun e => PV.nls_iff.1 (hn e) p (List.mem_of_getElem? hp)) (h3 j p v hp hv)
    | fn f ps =>
      simp only [PV.sh, VR, PV.nl] at h hn ⊢
      obtain ⟨cs, h1, h2, h3⟩ := h
      refine ⟨cs, h1, by rw [lenS]; exact h2, fun j q v hq hv => ?_⟩
      obtain ⟨p, hp, rfl⟩ := shj hq
      exact ih (fun e => PV.nls_iff.1 (hn e) p (List.mem_of_getElem? hp)) (h3 j p v hp hv)
    | list sz xs ex =>
      simp only [PV.sh, VR, PV.nl] at h hn ⊢
      obtain ⟨a, cap, h1, h2, h3, h4, h5, h6⟩ := h
      refine ⟨a, cap, h1, h2, h3, h4, h5, fun h0 => ?_⟩
      obtain ⟨ad, e1, e2, e3, e4⟩ := h6 h0
      cases full with
      | false =>
        have := hn rfl
        simp at this; subst this; simp at h0
      | true =>
        refine ⟨ad, e1, e2, hf rfl _ e3, fun j p hp => ?_⟩
        obtain ⟨v, q1, q2⟩ := e4 j p hp
        obtain ⟨x, hx, hp'⟩ := List.mem_flatMap.1 (List.mem_of_getElem? hp)
        have := ih (by simp) q2
        rw [PV.sh_bel0 k (bels_cells (h5 x hx).1 p hp')] at this
        exact ⟨v, by rw [hw]; exact q1, this⟩
    | tl sz xs =>
      simp only [PV.sh, VR, PV.nl] at h hn ⊢
      obtain ⟨a, cap, h1, h2, h3, h6⟩ := h
      cases full with
      | false => simp at hn
      | true =>
        refine ⟨a, cap, by rw [lenS]; exact h1, by rw [lenS]; exact h2, fun x hx => ?_, fun h0 => ?_⟩
        · rw [PV.shs_map] at hx
          obtain ⟨y, hy, rfl⟩ := List.mem_map.1 hx
          rw [PV.sh_cells]; simpa using h3 y hy
        · rw [lenS] at h0
          obtain ⟨ad, e1, e2, e3, e4⟩ := h6 h0
          refine ⟨ad, e1, e2, hf rfl _ e3, fun j p hp => ?_⟩
          have hfm : (PV.shs k xs).flatMap PV.cells = (xs.flatMap PV.cells).map (PV.sh k) := by
            rw [PV.shs_map, List.flatMap_map, List.map_flatMap]
            congr 1; funext x; exact PV.sh_cells _ x
          rw [hfm, List.getElem?_map] at hp
          cases hq0 : (xs.flatMap PV.cells)[j]? with
          | none => rw [hq0] at hp; simp at hp
          | some q0 =>
            rw [hq0] at hp; simp at hp; subst hp
            obtain ⟨v, q1, q2⟩ := e4 j q0 hq0
            exact ⟨v, by rw [hw]; exact q1, ih (by simp) q2⟩
    | fptr cs off =>
      simp only [PV.sh, VR, PV.nl] at h hn ⊢
      obtain ⟨ad, e1, e2, e3, e4⟩ := h
      cases full with
      | false => simp at hn
      | true =>
        refine ⟨ad, e1, e2, hf rfl _ e3, fun j p hp => ?_⟩
        obtain ⟨q0, v, q1, q2⟩ := e4 j p hp
        have := ih (by simp) q2
        rw [PV.sh_bel0 k q0] at this
        exact ⟨q0, v, by rw [hw]; exact q1, this⟩
    | own id ver off len =>
      simp only [PV.sh, VR] at h ⊢
      obtain ⟨a, cap, q1, q2, sz, es, v1, h1, h2, h3⟩ := h
      refine ⟨a, cap, q1, q2, sz, _, v1, hσ id sz es v1 h1, h2, fun e => ?_⟩
      obtain ⟨h4, h5⟩ := h3 e
      refine ⟨by rw [lenS]; exact h4, ?_⟩
      rw [hρ id (List.getElem?_eq_some_iff.1 h1).1, hw]
      exact h5
    | ptr id ver i off =>
      simp only [PV.sh, VR] at h ⊢
      obtain ⟨ad, q0, sz, es, v1, h1, h2, h3⟩ := h
      refine ⟨ad, q0, sz, _, v1, hσ id sz es v1 h1, h2, fun e => ?_⟩
      obtain ⟨h4, h5⟩ := h3 e
      rw [lenS, hρ id (List.getElem?_eq_some_iff.1 h1).1]
      exact ⟨h4, h5⟩

/-- From a call in a state of its own to a call behind the caller's objects. full: the caller's objects are out of sight; else: they are lent, and what comes back has no memory but new objects. -/
theorem ACall_lend {P : Program} {f : FuncId} {args args' : List PV} {σ : List AObj} {full : Bool} {Q : PV → List AObj → Prop} (h : ACall P f args' [] Q)
    (ha : if full then args' = args ∧ PV.bels 0 args = true else ∃ d, mapO (dfr σ d) args = some args') (hq : full = false → ∀ p τ, Q p τ → p.nl = true ∧ ∀ o ∈ τ, o.nl = true) :
    ACall P f args σ fun p σ' => ∃ q τ, Q q τ ∧ p = q.sh σ.length ∧ σ' = σ ++ τ.map (AObj.sh σ.length) := by
  intro g vs hg hst hr
  subst hg
  let H : List Nat := if full then g.h ++ g.ρ.filterMap id else g.h
  have hmem : ∀ b, b ∈ g.ρ.filterMap id ↔ ∃ i : Nat, g.ρ[i]? = some (some b) := by
    intro b
    simp only [List.mem_filterMap, id, exists_eq_right]
    exact List.mem_iff_getElem?
  have hH : ∀ b ∈ H, b < g.w.heap.size := by
    intro b hb
    simp only [H] at hb
    split at hb
    · rcases List.mem_append.1 hb with h1 | h1
      · exact hst.hid.1 b h1
      · obtain ⟨i, hi⟩ := (hmem b).1 h1; exact hst.block_lt hi
    · exact hst.hid.1 b hb
  have hr1 : Rs ⟨[], [], g.w, H⟩ args' vs := by
    cases full with
    | true =>
      simp only [if_true] at ha
      obtain ⟨rfl, hb⟩ := ha
      refine ⟨hr.1, fun j p v hp hv => ?_⟩
      have hp0 := PV.bels_iff.1 hb p (List.mem_of_getElem? hp)
      obtain ⟨m, hm⟩ := hr.2 j p v hp hv
      -- by the reading of values without references
      exact ⟨m, by
        have key : ∀ {m : Nat} {p : PV} {c : Value}, p.bel 0 = true → VR g m p c → VR ⟨[], [], g.w, H⟩ m p c := by
          intro m
          induction m with
          | zero => intro p c _ h; exact h.elim
          | succ m ih =>
            intro p c hb k
            have hfz : ∀ b, g.frz b → G.frz ⟨[], [], g.w, H⟩ b := fun b hb => ⟨hb.1, fun i hi => by simp at hi, fun hh => by
              simp only [H, if_true] at hh
              rcases List.mem_append.1 hh with h1 | h1
              · exact hb.2.2 h1
              · obtain ⟨i, hi⟩ := (hmem b).1 h1; exact hb.2.1 i hi⟩
            cases p with
            | any => trivial
            | val v => exact k
            | agg ps =>
              simp only [VR, PV.bel] at k hb ⊢
              obtain ⟨cs, h1, h2, h3⟩ := k
              exact ⟨cs, h1, h2, fun j p v hp hv => ih (PV.bels_iff.1 hb p (List.mem_of_getElem? hp)) (h3 j p v hp hv)⟩
            | tup ps =>
              simp only [VR, PV.bel] at k hb ⊢
              obtain ⟨cs, h1, h2, h3⟩ := k
              exact ⟨cs, h1, h2, fun j p v hp hv => ih (PV.bels_iff.1 hb p (List.mem_of_getElem? hp)) (h3 j p v hp hv)⟩
            | list sz xs ex =>
              simp only [VR] at k ⊢
              obtain ⟨a, cap, h1, h2, h3, h4, h5, h6⟩ := k
              refine ⟨a, cap, h1, h2, h3, h4, h5, fun h0 => ?_⟩
              obtain ⟨ad, e1, e2, e3, e4⟩ := h6 h0
              refine ⟨ad, e1, e2, hfz _ e3, fun j p hp => ?_⟩
              obtain ⟨v, q1, q2⟩ := e4 j p hp
              refine ⟨v, q1, ih ?_ q2⟩
              obtain ⟨x, hx, hp'⟩ := List.mem_flatMap.1 (List.mem_of_getElem? hp)
              exact bels_cells (h5 x hx).1 p hp'
            | tl sz xs =>
              simp only [VR, PV.bel] at k hb ⊢
              obtain ⟨a, cap, h1, h2, h3, h6⟩ := k
              refine ⟨a, cap, h1, h2, h3, fun h0 => ?_⟩
              obtain ⟨ad, e1, e2, e3, e4⟩ := h6 h0
              refine ⟨ad, e1, e2, hfz _ e3, fun j p hp => ?_⟩
              obtain ⟨v, q1, q2⟩ := e4 j p hp
              refine ⟨v, q1, ih ?_ q2⟩
              obtain ⟨x, hx, hp'⟩ := List.mem_flatMap.1 (List.mem_of_getElem? hp)
              exact bels_cells (PV.bels_iff.1 hb x hx) p hp'
            | fptr cs off =>
              simp only [VR] at k ⊢
              obtain ⟨ad, e1, e2, e3, e4⟩ := k
              exact ⟨ad, e1, e2, hfz _ e3, fun j p hp => let ⟨q0, v, q1, q2⟩ := e4 j p hp; ⟨q0, v, q1, ih q0 q2⟩⟩
            | own id ver off len => simp [PV.bel] at hb
            | ptr id ver i off => simp [PV.bel] at hb
            | fn f caps =>
              simp only [VR, PV.bel] at k hb ⊢
              obtain ⟨cs, h1, h2, h3⟩ := k
              exact ⟨cs, h1, h2, fun j p v hp hv => ih (PV.bels_iff.1 hb p (List.mem_of_getElem? hp)) (h3 j p v hp hv)⟩
        exact key hp0 hm⟩
    | false =>
      simp only [Bool.false_eq_true, if_false] at ha
      obtain ⟨d, ha⟩ := ha
      obtain ⟨k1, k2⟩ := mapO_spec ha
      refine ⟨by rw [k1]; exact hr.1, fun j p v hp hv => ?_⟩
      obtain ⟨x, e1, e2⟩ := k2 j p hp
      have := dfr_sound hst (hr.2 j x v e1 hv) e2
      simpa [G.none, H] using this
  refine (h ⟨[], [], g.w, H⟩ vs rfl (St.empty hH) hr1).mono ?_
  rintro e w' ⟨v, q, τ, ρτ, rfl, t1, t2, t3, t4⟩
  have old : ∀ b, b < g.w.heap.size → w'.heap[b]? = g.w.heap[b]? := fun b hb => t2.block b hb (fun i hi => by simp at hi)
  have new : ∀ (i b : Nat), ρτ[i]? = some (some b) → g.w.heap.size ≤ b := by
    intro i b hi
    rcases t2.own i b hi with h | ⟨j, hj⟩
    · exact h
    · simp at hj
  have hlenρ : ρτ.length = τ.length := t1.len
  have hρ2 : ∀ i, i < τ.length → (g.ρ ++ ρτ)[i + g.σ.length]? = ρτ[i]? := by
    intro i hi
    rw [List.getElem?_append_right (by rw [hst.len]; omega), hst.len, Nat.add_sub_cancel]
  have hσ2 : ∀ (i : Nat) sz es ver, τ[i]? = some (.row sz es ver) → (g.σ ++ τ.map (AObj.sh g.σ.length))[i + g.σ.length]? = some (.row sz (PV.shs g.σ.length es) ver) := by
    intro i sz es ver hi
    rw [List.getElem?_append_right (by omega), Nat.add_sub_cancel, List.getElem?_map, hi]; rfl
  have hstep : Step g ⟨g.σ ++ τ.map (AObj.sh g.σ.length), g.ρ ++ ρτ, w', g.h⟩ := by
    refine ⟨rfl, t2.os, t2.tape, t2.output, t2.size, fun b hb _ => old b hb, fun i b hi => ?_, fun i sz es ver ho => ?_⟩
    · rcases Nat.lt_or_ge i g.ρ.length with h | h
      · rw [List.getElem?_append_left h] at hi; exact .inr ⟨i, hi⟩
      · rw [List.getElem?_append_right h] at hi; exact .inl (new _ _ hi)
    · have hi : i < g.σ.length := (List.getElem?_eq_some_iff.1 ho).1
      refine ⟨es, ver, by rw [List.getElem?_append_left hi]; exact ho, Nat.le_refl _, fun _ => ⟨Nat.le_refl _, by rw [List.getElem?_append_left (by rw [hst.len]; exact hi)], fun b hb => ?_⟩⟩
      unfold blockSize
      rw [show (G.w ⟨g.σ ++ τ.map (AObj.sh g.σ.length), g.ρ ++ ρτ, w', g.h⟩) = w' from rfl, old b (hst.block_lt hb)]
  have hfz : full = true → ∀ b, G.frz ⟨τ, ρτ, w', H⟩ b → G.frz ⟨g.σ ++ τ.map (AObj.sh g.σ.length), g.ρ ++ ρτ, w', g.h⟩ b := by
    intro hf b hb
    have hbH := hb.2.2
    simp only [H, hf, if_true, List.mem_append, not_or] at hbH
    refine ⟨hb.1, fun i hi => ?_, hbH.1⟩
    rcases Nat.lt_or_ge i g.ρ.length with h | h
    · rw [List.getElem?_append_left h] at hi; exact hbH.2 ((hmem b).2 ⟨i, hi⟩)
    · rw [List.getElem?_append_right h] at hi; exact hb.2.1 _ hi
  have up : ∀ {p : PV} {c : Value}, (full = false → p.nl = true) → R ⟨τ, ρτ, w', H⟩ p c → R ⟨g.σ ++ τ.map (AObj.sh g.σ.length), g.ρ ++ ρτ, w', g.h⟩ (p.sh g.σ.length) c :=
    fun hn ⟨m, hm⟩ => ⟨m, VR.sh (g1 := ⟨τ, ρτ, w', H⟩) (g2 := ⟨g.σ ++ τ.map (AObj.sh g.σ.length), g.ρ ++ ρτ, w', g.h⟩) hσ2 hρ2 rfl hfz hn hm⟩
  have hty : ∀ (i b : Nat) sz es ver, (g.σ ++ τ.map (AObj.sh g.σ.length))[i]? = some (.row sz es ver) → 1000000 ≤ ver → (g.ρ ++ ρτ)[i]? = some (some b) → ∃ cs fr, w'.heap[b]? = some (.cells cs (ver / 1000000 - 1) fr) := by
    intro i b sz es ver ho hv hb
    rcases Nat.lt_or_ge i g.σ.length with hi | hi
    · rw [List.getElem?_append_left hi] at ho; rw [List.getElem?_append_left (by rw [hst.len]; exact hi)] at hb
      rw [old b (hst.block_lt hb)]; exact hst.ty i b _ _ _ ho hv hb
    · rw [List.getElem?_append_right hi, List.getElem?_map] at ho
      cases hto : τ[i - g.σ.length]? with
      | none => rw [hto] at ho; simp at ho
      | some o =>
        obtain ⟨sz0, es0, ver0⟩ := o
        rw [hto] at ho; simp [AObj.sh] at ho; obtain ⟨rfl, rfl, rfl⟩ := ho
        have hti : i - g.σ.length < τ.length := (List.getElem?_eq_some_iff.1 hto).1
        have hi2 := hρ2 _ hti
        rw [Nat.sub_add_cancel hi] at hi2
        have hb' : ρτ[i - g.σ.length]? = some (some b) := by rw [← hi2]; exact hb
        exact t1.ty _ b _ _ _ hto hv hb'
  refine ⟨v, q.sh g.σ.length, _, g.ρ ++ ρτ, rfl, ⟨hst.hidS hstep, by simp [hst.len, hlenρ], fun i j b hi hj => ?_, fun i sz es ver ho => ?_, hty⟩, hstep, up (fun e => (hq e _ _ t4).1) t3, q, τ, t4, rfl, rfl⟩
  · simp only at hi hj
    rcases Nat.lt_or_ge i g.ρ.length with h1 | h1 <;> rcases Nat.lt_or_ge j g.ρ.length with h2 | h2
    · rw [List.getElem?_append_left h1] at hi; rw [List.getElem?_append_left h2] at hj; exact hst.inj i j b hi hj
    · rw [List.getElem?_append_left h1] at hi; rw [List.getElem?_append_right h2] at hj
      have := hst.block_lt hi; have := new _ _ hj; omega
    · rw [List.getElem?_append_right h1] at hi; rw [List.getElem?_append_left h2] at hj
      have := hst.block_lt hj; have := new _ _ hi; omega
    · rw [List.getElem?_append_right h1] at hi; rw [List.getElem?_append_right h2] at hj
      have := t1.inj _ _ b hi hj; omega
  · simp only at ho
    rcases Nat.lt_or_ge i g.σ.length with hi | hi
    · rw [List.getElem?_append_left hi] at ho
      rcases hst.obj i sz es ver ho with ⟨b, cs, e, fr, h1, h2, h3, h4, h5, h6⟩ | ⟨h1, h2⟩
      · exact .inl ⟨b, cs, e, fr, by show (g.ρ ++ _)[i]? = _; rw [List.getElem?_append_left (by rw [hst.len]; exact hi)]; exact h1, by show w'.heap[b]? = _; rw [old b (hst.block_lt h1)]; exact h2, h3, h4, h5,
          fun j p hp => let ⟨v, q1, q2⟩ := h6 j p hp; ⟨v, q1, q2.step hstep⟩⟩
      · exact .inr ⟨by show (g.ρ ++ _)[i]? = _; rw [List.getElem?_append_left (by rw [hst.len]; exact hi)]; exact h1, h2⟩
    · rw [List.getElem?_append_right hi, List.getElem?_map] at ho
      cases hto : τ[i - g.σ.length]? with
      | none => rw [hto] at ho; simp at ho
      | some o =>
        obtain ⟨sz0, es0, ver0⟩ := o
        rw [hto] at ho; simp [AObj.sh] at ho; obtain ⟨rfl, rfl, rfl⟩ := ho
        have hti : i - g.σ.length < τ.length := (List.getElem?_eq_some_iff.1 hto).1
        have hi2 : (g.ρ ++ ρτ)[i]? = ρτ[i - g.σ.length]? := by
          have := hρ2 _ hti
          rwa [Nat.sub_add_cancel hi] at this
        have hnl : full = false → ∀ p ∈ es0, p.nl = true := by
          intro e p hp
          have := (hq e _ _ t4).2 _ (List.mem_of_getElem? hto)
          simp only [AObj.nl] at this
          exact PV.nls_iff.1 this p hp
        rcases t1.obj _ _ _ _ hto with ⟨b, cs, e, fr, h1, h2, h3, h4, h5, h6⟩ | ⟨h1, h2⟩
        · refine .inl ⟨b, cs, e, fr, by show (g.ρ ++ _)[i]? = _; rw [hi2]; exact h1, h2, h3, fun x hx => ?_, by rw [PV.shs_map]; simpa using h5, fun j p hp => ?_⟩
          · rw [PV.shs_map] at hx
            obtain ⟨y, hy, rfl⟩ := List.mem_map.1 hx
            rw [PV.sh_cells]; simpa using h4 y hy
          · have : (PV.shs g.σ.length es0).flatMap PV.cells = (es0.flatMap PV.cells).map (PV.sh g.σ.length) := by
              rw [PV.shs_map, List.flatMap_map, List.map_flatMap]
              congr 1; funext x; exact PV.sh_cells _ x
            rw [this, List.getElem?_map] at hp
            cases hq0 : (es0.flatMap PV.cells)[j]? with
            | none => rw [hq0] at hp; simp at hp
            | some q0 =>
              rw [hq0] at hp; simp at hp; subst hp
              obtain ⟨u, k1, k2⟩ := h6 j q0 hq0
              refine ⟨u, k1, up (fun e => ?_) k2⟩
              obtain ⟨x, hx, hx'⟩ := List.mem_flatMap.1 (List.mem_of_getElem? hq0)
              have hxn := hnl e x hx
              cases x with
              | agg ps => simp only [PV.nl] at hxn; exact PV.nls_iff.1 hxn q0 hx'
              | _ => simp only [PV.cells, List.mem_singleton] at hx'; subst hx'; exact hxn
        · exact .inr ⟨by show (g.ρ ++ _)[i]? = _; rw [hi2]; exact h1, by rw [h2]; rfl⟩

end Aw
end Go.Proofs.Ytoliadfdklfmfaa
