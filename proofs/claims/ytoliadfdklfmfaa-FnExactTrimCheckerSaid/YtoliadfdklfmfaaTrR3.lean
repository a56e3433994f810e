/- The checker without the states to which nothing leads: the reference. -/
import Derived.Test.YtoliadfdklfmfaaTrC2
import Derived.Test.YtoliadfdklfmfaaBtX
set_option linter.unusedVariables false
set_option linter.unusedSimpArgs false
set_option maxRecDepth 100000
namespace Go.Proofs.Ytoliadfdklfmfaa
open Aw
/-! ### The table of numbers -/
structure TbI (c : GChecker) (L : List Int) (k : Nat) (T : List Int) : Prop where
  len : T.length = c.accept.length
  at_ : ∀ i (h : i < L.length), i < k → T[(L[i]).toNat]? = some (i : Int)
theorem TbI.next {c : GChecker} {L : List Int} (hL : TrL c L) (hn : L.Nodup) {k : Nat} {T : List Int} (h : TbI c L k T) (hk : k < L.length) : TbI c L (k + 1) (T.set (L[k]).toNat (k : Int)) := by
  refine ⟨by rw [List.length_set]; exact h.len, fun i hi hik => ?_⟩
  have h0 := hL.mem _ (List.getElem_mem hk)
  have h1 := hL.mem _ (List.getElem_mem hi)
  by_cases e : i = k
  · subst e
    rw [List.getElem?_set_self (by rw [h.len]; omega)]
  · have hne : (L[k]).toNat ≠ (L[i]).toNat := fun e2 => by
      have e3 : L[k] = L[i] := by omega
      exact e ((List.getElem_inj hn).1 e3).symm
    rw [List.getElem?_set_ne hne]
    exact h.at_ i hi (by omega)
theorem trP_at {L : List Int} (hn : L.Nodup) {i : Nat} (hi : i < L.length) : trP L L[i] = i := by
  have key : ∀ (L : List Int) (i : Nat) (hi : i < L.length), L.Nodup → firstIx (fun x => decide (L[i] = x)) L = some i := by
    intro L
    induction L with
    | nil => intro i hi; simp at hi
    | cons x L ih =>
      intro i hi hn
      rw [List.nodup_cons] at hn
      cases i with
      | zero => simp [firstIx]
      | succ i =>
        have hi' : i < L.length := by simpa using hi
        have hne : ¬ L[i] = x := fun e => hn.1 (e ▸ List.getElem_mem hi')
        simp [firstIx, hne, ih i hi' hn.2]
  unfold trP ixOf
  rw [key L i hi hn]
theorem TbI.get {c : GChecker} {L : List Int} (hL : TrL c L) (hn : L.Nodup) {T : List Int} (h : TbI c L L.length T) {x : Int} (hx : x ∈ L) : T[x.toNat]? = some (trP L x) := by
  obtain ⟨i, hi, rfl⟩ := List.mem_iff_getElem.1 hx
  rw [h.at_ i hi hi, trP_at hn hi]
structure TrK (c : GChecker) (L T : List Int) : Prop where
  ok : okCk c = true
  tl : TrL c L
  nd : L.Nodup
  cl : ∀ x ∈ L, ∀ t ∈ nxC c x.toNat, t ∈ L
  st : c.start ∈ L
  tb : TbI c L L.length T
theorem TrK.num {c : GChecker} {L T : List Int} (K : TrK c L T) {x : Int} (hx : x ∈ L) : ∃ y : Nat, x = y ∧ ∃ h : y < T.length, T[y] = trP L x := by
  have h1 := K.tl.mem x hx
  have h2 := K.tb.get K.tl K.nd hx
  obtain ⟨h, e⟩ := List.getElem?_eq_some_iff.1 h2
  exact ⟨x.toNat, by omega, h, e⟩
theorem usL_trK {c : GChecker} (hok : okCk c = true) {T : List Int} (h : TbI c (usL c) (usL c).length T) : TrK c (usL c) T :=
  ⟨hok, usL_tr hok, asc_nodup (usL_asc c), fun x hx t ht => (usL_mem hok t).2 (.step ((usL_mem hok x).1 hx) ht), (usL_mem hok _).2 .start, h⟩
/-- A state's row. -/
structure TrW (c : GChecker) (L T : List Int) (S s m : Nat) : Prop where
  p : ∃ h1 : m < c.call.length, ∀ k, k < 2 → ∃ (h : k < (c.call[m]).length) (y : Nat), ((c.call[m])[k]).to = y ∧ ((c.call[m])[k]).put = (trC c L s k).put ∧ ∃ h' : y < T.length, T[y] = (trC c L s k).to
  r : ∃ h1 : m < c.ret.length, ∀ k, k < 2 → ∃ h : k < (c.ret[m]).length, ((c.ret[m])[k]).length = S + 1 ∧ ∀ j (hj : j < ((c.ret[m])[k]).length), ∃ y : Nat, ((c.ret[m])[k])[j] = y ∧ ∃ h' : y < T.length, T[y] = trB c L s k j
  i : ∃ h1 : m < c.inner.length, ∀ k, k < 2 → ∃ (h : k < (c.inner[m]).length) (y : Nat), (c.inner[m])[k] = y ∧ ∃ h' : y < T.length, T[y] = trI c L s k
  a : ∃ h1 : m < c.accept.length, c.accept[m] = trA c L s
theorem TrK.row {c : GChecker} {L T : List Int} (K : TrK c L T) {S : Nat} (hS : c.stack = (S : Int)) {s : Nat} (hs : s < L.length) : ∃ m : Nat, L[s] = m ∧ TrW c L T S s m := by
  obtain ⟨m, h1, h2, h3, h4, p0, p1, q0, q1, i0, i1, es, eS, e1, e2, e3, n0, n1, a, c0, c1, b0, b1, j0, j1⟩ := tr_at K.ok K.tl hs
  have hcl := K.cl _ (List.getElem_mem hs)
  rw [es, Int.toNat_natCast, nxC_row h1 h2 h3 e1 e2 e3] at hcl
  refine ⟨m, es, ⟨h1, fun k hk => ?_⟩, ⟨h2, fun k hk => ?_⟩, ⟨h3, fun k hk => ?_⟩, ⟨h4, a.symm⟩⟩
  · have hk' : k = 0 ∨ k = 1 := by omega
    rcases hk' with rfl | rfl
    · obtain ⟨y, hy, h', hT⟩ := K.num (hcl p0.to (by simp))
      exact ⟨by simp [e1], y, by simp [e1, hy], by simp [e1, c0], h', by rw [c0]; exact hT⟩
    · obtain ⟨y, hy, h', hT⟩ := K.num (hcl p1.to (by simp))
      exact ⟨by simp [e1], y, by simp [e1, hy], by simp [e1, c1], h', by rw [c1]; exact hT⟩
  · have hk' : k = 0 ∨ k = 1 := by omega
    rcases hk' with rfl | rfl
    · refine ⟨by simp [e2], by simp [e2]; omega, fun j hj => ?_⟩
      have hj' : j < q0.length := by simpa [e2] using hj
      obtain ⟨y, hy, h', hT⟩ := K.num (hcl q0[j] (by simp))
      exact ⟨y, by simp [e2, hy], h', by rw [b0 j hj']; exact hT⟩
    · refine ⟨by simp [e2], by simp [e2]; omega, fun j hj => ?_⟩
      have hj' : j < q1.length := by simpa [e2] using hj
      obtain ⟨y, hy, h', hT⟩ := K.num (hcl q1[j] (by simp))
      exact ⟨y, by simp [e2, hy], h', by rw [b1 j hj']; exact hT⟩
  · have hk' : k = 0 ∨ k = 1 := by omega
    rcases hk' with rfl | rfl
    · obtain ⟨y, hy, h', hT⟩ := K.num (hcl i0 (by simp))
      exact ⟨by simp [e3], y, by simp [e3, hy], h', by rw [j0]; exact hT⟩
    · obtain ⟨y, hy, h', hT⟩ := K.num (hcl i1 (by simp))
      exact ⟨by simp [e3], y, by simp [e3, hy], h', by rw [j1]; exact hT⟩
/-! ### Loop 0: the table -/
theorem lo_tr_0 {c : GChecker} {L : List Int} (hL : TrL c L) (hn : L.Nodup) (hc : c.accept.length ≤ 40) (ex : Bool) : ∃ T : List Int, TbI c L L.length T ∧ ∀ ks, rE fns fa_spec_TrimChecker 0 (.code lo_spec_TrimChecker_0 :: .inBlock 0 :: ks) [(6, i64 0), (5, .own 1 0 0 c.accept.length), (4, .list 1 (L.map Enc.pv) ex), (2, .ptr 0 0 0 0), (1, CkP c)] [.row 6 [zCk] 0, .row 1 (List.replicate c.accept.length (i64 0)) 0] =
    rE fns fa_spec_TrimChecker 0 ks [(5, .own 1 0 0 c.accept.length), (4, .list 1 (L.map Enc.pv) ex), (2, .ptr 0 0 0 0), (1, CkP c)] [.row 6 [zCk] 0, .row 1 (T.map Enc.pv) 0] := by
  obtain ⟨T, k1, h1⟩ := loop_known (F := fun (k : Nat) (T : List Int) (ks : List KI) => rE fns fa_spec_TrimChecker 0 (.code lo_spec_TrimChecker_0 :: .inBlock 0 :: ks) [(6, i64 (k : Nat)), (5, .own 1 0 0 c.accept.length), (4, .list 1 (L.map Enc.pv) ex), (2, .ptr 0 0 0 0), (1, CkP c)] [.row 6 [zCk] 0, .row 1 (T.map Enc.pv) 0])
    (n := L.length) (I := TbI c L) (fun k T hk hI => by
      refine ⟨_, ?_, hI.next hL hn hk⟩
      have h0 := hL.mem _ (List.getElem_mem hk)
      obtain ⟨y, hy⟩ : ∃ y : Nat, L[k] = (y : Int) := ⟨(L[k]).toNat, by omega⟩
      have hw := wrap_i64 (n := k + 1) (by have := hL.len; omega)
      have hlt : (k : Int) < L.length := by omega
      have hyT : y < c.accept.length := by omega
      have hT := hI.len
      funext ks
      rw [l_spec_TrimChecker_0]
      simp [lb_spec_TrimChecker_0, hk, hlt, hy, hw, hT, hyT, List.map_set]
      done) (s := List.replicate c.accept.length 0) ⟨by simp, fun i _ h => by omega⟩
  refine ⟨T, h1, fun ks => ?_⟩
  have e := congrFun k1 ks
  have er : (List.replicate c.accept.length (0 : Int)).map Enc.pv = List.replicate c.accept.length (i64 0) := by rw [List.map_replicate]; rfl
  simp only [er] at e
  refine e.trans ?_
  rw [l_spec_TrimChecker_0]
  simp [lb_spec_TrimChecker_0]
/-! ### Loop 1: a row of what is returned -/
noncomputable def T1 (c : GChecker) (T : List Int) (m j : Nat) (id : Nat) (k : Nat) (s : List AObj × Nat) (ks : List KI) (a12 a11 a10 a8 a4 a2 : PV) : Option (PV × List AObj) :=
  rE fns fa_spec_TrimChecker 0 (.code lo_spec_TrimChecker_1 :: .inBlock 6 :: ks) [(15, i64 (k : Nat)), (14, .own id s.2 0 k), (13, i64 (j : Nat)), (12, a12), (11, a11), (10, a10), (9, i64 (m : Nat)), (8, a8), (7, .ptr 1 0 0 0), (5, lst 1 T), (4, a4), (2, a2), (1, CkP c)] s.1
theorem ro_tr_1 {c : GChecker} {T : List Int} {m j : Nat} {q : List Int} (h2 : m < c.ret.length) (hj : j < (c.ret[m]).length) (hq : (c.ret[m])[j] = q) (f : Nat → Int) (hv : ∀ k (h : k < q.length), ∃ y : Nat, q[k] = y ∧ ∃ h' : y < T.length, T[y] = f k) (hl : q.length ≤ 900000)
    {σ0 : List AObj} (id : Nat) (k : Nat) (s : List AObj × Nat) (h : k < q.length) (hi : FlI σ0 id f k s) : ∃ s' : List AObj × Nat, T1 c T m j id k s = T1 c T m j id (k + 1) s' ∧ FlI σ0 id f (k + 1) s' := by
  obtain ⟨σ, v⟩ := s
  refine ⟨_, ?_, hi.push (nl_int _)⟩
  have h1 := hi.l.at
  have hv1 : v < 999999 := by have := hi.v; simp only at this; omega
  have hw := wrap_i64 (n := k + 1) (by omega)
  obtain ⟨y, hy, hyT, hT⟩ := hv k h
  have b1 : (k + 1) * 8 ≤ 140737488355328 := by omega
  have hlt : (k : Int) < q.length := by omega
  funext ks a12 a11 a10 a8 a4 a2
  unfold T1
  rw [l_spec_TrimChecker_1]
  simp [-callN] at h1
  simp [-callN, lb_spec_TrimChecker_1, h, h1, h2, hj, hq, hw, b1, hlt, hv1, hy, hyT, hT]
  done
theorem lo_tr_1 {c : GChecker} {T : List Int} {m j : Nat} {q : List Int} (h2 : m < c.ret.length) (hj : j < (c.ret[m]).length) (hq : (c.ret[m])[j] = q) (f : Nat → Int) (hv : ∀ k (h : k < q.length), ∃ y : Nat, q[k] = y ∧ ∃ h' : y < T.length, T[y] = f k) (hl : q.length ≤ 900000)
    {σ : List AObj} (g : Gud σ) (n : Nl [] σ) :
    ∃ s' : List AObj × Nat, (∀ ks a12 a11 a10 a8 a4 a2, rE fns fa_spec_TrimChecker 0 (.code lo_spec_TrimChecker_1 :: .inBlock 6 :: ks) [(15, i64 0), (14, .own σ.length 0 0 0), (13, i64 (j : Nat)), (12, a12), (11, a11), (10, a10), (9, i64 (m : Nat)), (8, a8), (7, .ptr 1 0 0 0), (5, lst 1 T), (4, a4), (2, a2), (1, CkP c)] (σ ++ [.row 1 [] 0]) =
      rE fns fa_spec_TrimChecker 0 ks [(14, .own σ.length s'.2 0 q.length), (13, i64 (j : Nat)), (12, a12), (11, a11), (10, a10), (9, i64 (m : Nat)), (8, a8), (7, .ptr 1 0 0 0), (5, lst 1 T), (4, a4), (2, a2), (1, CkP c)] s'.1) ∧ FlI σ σ.length f q.length s' := by
  obtain ⟨s1, k1, h1⟩ := loop_known (F := T1 c T m j σ.length) (n := q.length) (I := FlI σ σ.length f) (fun k s hk hi => ro_tr_1 h2 hj hq f hv hl σ.length k s hk hi) (FlI.start f g n)
  refine ⟨s1, fun ks a12 a11 a10 a8 a4 a2 => ?_, h1⟩
  have e := congrFun (congrFun (congrFun (congrFun (congrFun (congrFun (congrFun k1 ks) a12) a11) a10) a8) a4) a2
  unfold T1 at e
  have e2 : rE fns fa_spec_TrimChecker 0 (.code lo_spec_TrimChecker_1 :: .inBlock 6 :: ks) [(15, i64 (q.length : Nat)), (14, .own σ.length s1.2 0 q.length), (13, i64 (j : Nat)), (12, a12), (11, a11), (10, a10), (9, i64 (m : Nat)), (8, a8), (7, .ptr 1 0 0 0), (5, lst 1 T), (4, a4), (2, a2), (1, CkP c)] s1.1 =
      rE fns fa_spec_TrimChecker 0 ks [(14, .own σ.length s1.2 0 q.length), (13, i64 (j : Nat)), (12, a12), (11, a11), (10, a10), (9, i64 (m : Nat)), (8, a8), (7, .ptr 1 0 0 0), (5, lst 1 T), (4, a4), (2, a2), (1, CkP c)] s1.1 := by
    rw [l_spec_TrimChecker_1]
    simp [lb_spec_TrimChecker_1, h2, hj, hq]
  rw [e2] at e
  simpa using e
end Go.Proofs.Ytoliadfdklfmfaa

set_option linter.unusedVariables false
set_option linter.unusedSimpArgs false
set_option maxRecDepth 100000
namespace Go.Proofs.Ytoliadfdklfmfaa
open Aw
/-! ### Loop 2: the two kinds of a state -/
noncomputable def T2 (c : GChecker) (T : List Int) (m n0 : Nat) (k : Nat) (s : S3) (ks : List KI) (a8 a4 a2 : PV) : Option (PV × List AObj) :=
  rE fns fa_spec_TrimChecker 0 (.code lo_spec_TrimChecker_2 :: .inBlock 4 :: ks) [(13, i64 (k : Nat)), (12, .own (n0 + 2) s.2.2.2 0 k), (11, .own (n0 + 1) s.2.2.1 0 k), (10, .own n0 s.2.1 0 k), (9, i64 (m : Nat)), (8, a8), (7, .ptr 1 0 0 0), (5, lst 1 T), (4, a4), (2, a2), (1, CkP c)] s.1
set_option maxHeartbeats 16000000 in
theorem ro_tr_2 {c : GChecker} {L T : List Int} {S st m : Nat} (W : TrW c L T S st m) (hS : S ≤ 80)
    {σ0 : List AObj} {x0 x1 : PV} {i2 v2 n2 i3 v3 n3 i4 v4 n4 i5 v5 n5 : Nat} (hc : σ0[1]? = some (.row 6 [.agg [x0, x1, .own i2 v2 0 n2, .own i3 v3 0 n3, .own i4 v4 0 n4, .own i5 v5 0 n5]] 0)) (k : Nat) (s : S3) (h : k < 2) (hi : RwI σ0 (trC c L st) (trB c L st) (trI c L st) S k s) :
    ∃ s' : S3, T2 c T m σ0.length k s = T2 c T m σ0.length (k + 1) s' ∧ RwI σ0 (trC c L st) (trB c L st) (trI c L st) S (k + 1) s' := by
  obtain ⟨σ, vp, vq, vw⟩ := s
  obtain ⟨hp, ⟨es, ids, hq, hqi⟩, hw, he, hg, hn, z1, z2, z3⟩ := hi
  simp only at hp hq hw he hg hn z1 z2 z3
  obtain ⟨⟨c1, Wp⟩, ⟨r1, Wr⟩, ⟨j1, Wi⟩, _⟩ := W
  obtain ⟨c2, yp, ep, eput, lp, Tp⟩ := Wp k h
  obtain ⟨r2, lr, vr⟩ := Wr k h
  obtain ⟨j2, yi, ei, li, Ti⟩ := Wi k h
  have hlen := he.len
  have hpl := hp.lt σ0.length (by simp)
  have hql := hq.lt _ hq.mem
  have hwl := hw.lt (σ0.length + 2) (by simp)
  have a1 := hp.at
  have hc0 := he.get hc
  -- the push
  have p1 := hp.push (own_flatE σ (trC c L st k)) (by simp)
  have K1 := Keep.set σ σ0.length (.row (Enc.sz GPush) (((List.range k).map (trC c L st)).map Enc.pv ++ [Enc.pv (trC c L st k)]) (vp + 1))
  have q1 := hq.keep K1 (fun i hi hj => by simp at hj; have := hqi i hi; omega)
  have w1 := hw.keep K1 (fun i hi hj => by simp at hi hj; omega)
  have g1 : Gud (σ.set σ0.length (.row (Enc.sz GPush) (((List.range k).map (trC c L st)).map Enc.pv ++ [Enc.pv (trC c L st k)]) (vp + 1))) :=
    Gud.set hg _ _ _ (by rw [bels_append, bels_map]; simp only [PV.bels, Bool.and_true, Bool.true_and]; exact (own_flatE σ (trC c L st k)).bel)
  have n1 : Nl [] (σ.set σ0.length (.row (Enc.sz GPush) (((List.range k).map (trC c L st)).map Enc.pv ++ [Enc.pv (trC c L st k)]) (vp + 1))) :=
    hn.set _ (row_nl (nls_append (hn.at (by simp) hp.at) (by simp only [PV.nls, Bool.and_true]; exact nl_push _)))
  have e1 : Ext σ0 (σ.set σ0.length (.row (Enc.sz GPush) (((List.range k).map (trC c L st)).map Enc.pv ++ [Enc.pv (trC c L st k)]) (vp + 1))) := he.set (by omega) _
  have hc1 := e1.get hc
  have hl1 := K1.1
  generalize hσ1 : σ.set σ0.length (.row (Enc.sz GPush) (((List.range k).map (trC c L st)).map Enc.pv ++ [Enc.pv (trC c L st k)]) (vp + 1)) = σ1 at *
  -- the row
  obtain ⟨⟨τ, vl⟩, k1, hf⟩ := lo_tr_1 r1 r2 rfl (trB c L st k) vr (by omega) g1 n1
  rw [lr] at k1 hf
  have hl := hf.l.own (by simp; omega)
  have hfe := hf.e
  have hfg := hf.g
  have hfn := hf.n
  simp only [List.length_map, List.length_range] at hl hfe hfg hfn k1
  have hlt := hfe.len
  have p2 := p1.ext hfe
  have q2 := q1.ext hfe
  have w2 := w1.ext hfe
  have hat2 := q2.at
  have q3 := q2.push hl (fun i hi hj => by simp at hj; have := q1.lt i hi; omega)
  have K2 := Keep.set τ (σ0.length + 1) (.row (Enc.sz (List Int)) (es ++ [.own σ1.length vl 0 (S + 1)]) (vq + 1))
  have p3 := p2.keep K2 (fun i hi hj => by simp at hi hj; omega)
  have w3 := w2.keep K2 (fun i hi hj => by simp at hi hj; omega)
  have g2 : Gud (τ.set (σ0.length + 1) (.row (Enc.sz (List Int)) (es ++ [.own σ1.length vl 0 (S + 1)]) (vq + 1))) :=
    Gud.set hfg _ _ _ (by rw [bels_append, Bool.and_eq_true]; exact ⟨Gud.at hfg hat2, by simp only [PV.bels, Bool.and_true]; exact hl.bel⟩)
  have n2 : Nl [] (τ.set (σ0.length + 1) (.row (Enc.sz (List Int)) (es ++ [.own σ1.length vl 0 (S + 1)]) (vq + 1))) :=
    hfn.set _ (row_nl (nls_append (hfn.at (by simp) hat2) (by simp [PV.nls, PV.nl])))
  have e2 : Ext σ0 (τ.set (σ0.length + 1) (.row (Enc.sz (List Int)) (es ++ [.own σ1.length vl 0 (S + 1)]) (vq + 1))) := (Ext.trans e1 hfe).set (by omega) _
  have hat3 := w3.at
  generalize hσ2 : τ.set (σ0.length + 1) (.row (Enc.sz (List Int)) (es ++ [.own σ1.length vl 0 (S + 1)]) (vq + 1)) = σ2 at *
  have w4 := w3.push (own_flatE _ (trI c L st k)) (by simp)
  have K3 := Keep.set σ2 (σ0.length + 2) (.row (Enc.sz Int) (((List.range k).map (trI c L st)).map Enc.pv ++ [Enc.pv (trI c L st k)]) (vw + 1))
  have p4 := p3.keep K3 (fun i hi hj => by simp at hi hj; omega)
  have q4 := q3.keep K3 (fun i hi hj => by simp at hi hj; rcases hi with hi | hi; have := hqi i hi; omega; omega)
  refine ⟨(σ2.set (σ0.length + 2) (.row (Enc.sz Int) (((List.range k).map (trI c L st)).map Enc.pv ++ [Enc.pv (trI c L st k)]) (vw + 1)), vp + 1, vq + 1, vw + 1), ?_, ⟨?_, ⟨_, _, by rw [map_succ]; exact q4, ?_⟩, ?_, ?_, ?_, ?_, Nat.succ_le_succ z1, Nat.succ_le_succ z2, Nat.succ_le_succ z3⟩⟩
  · funext ks a8 a4 a2
    unfold T2
    have hwk := wrap_i64 (n := k + 1) (by omega)
    have hk2 : (k : Int) < 2 := by omega
    have lq := hq.len
    simp only [List.length_map, List.length_range] at lq
    have b1 : (k + 1) * 16 ≤ 140737488355328 ∧ (k + 1) * 24 ≤ 140737488355328 ∧ (k + 1) * 8 ≤ 140737488355328 := by omega
    have v4 : vp < 999999 ∧ vq < 999999 ∧ vw < 999999 := by omega
    subst lq
    rw [l_spec_TrimChecker_2]
    have Tp' := Tp
    have Ti' := Ti
    simp [-callN] at hc0 hc1 k1 a1 hat2 hat3 hσ1 hσ2
    simp [-callN, lb_spec_TrimChecker_2, h, hk2, c1, c2, ep, eput, lp, Tp, j1, j2, ei, li, Ti, hc0, hc1, k1, a1, hat2, hat3, hσ1, hσ2, hwk, b1, v4]
    done
  · simp only; rw [map_succ]; simpa using p4
  · intro i hi
    rcases List.mem_append.1 hi with hi | hi
    · exact hqi i hi
    · simp at hi; omega
  · simp only; rw [map_succ]; simpa using w4
  · exact e2.set (by omega) _
  · exact Gud.set g2 _ _ _ (by rw [bels_append, bels_map]; simp only [PV.bels, Bool.and_true, Bool.true_and]; exact (own_flatE σ2 (trI c L st k)).bel)
  · exact n2.set _ (row_nl (nls_append (n2.at (by simp) hat3) (by simp only [PV.nls, Bool.and_true]; exact nl_int _)))
theorem lo_tr_2 {c : GChecker} {L T : List Int} {S st m : Nat} (W : TrW c L T S st m) (hS : S ≤ 80)
    {σ : List AObj} {x0 x1 : PV} {i2 v2 n2 i3 v3 n3 i4 v4 n4 i5 v5 n5 : Nat} (hc : σ[1]? = some (.row 6 [.agg [x0, x1, .own i2 v2 0 n2, .own i3 v3 0 n3, .own i4 v4 0 n4, .own i5 v5 0 n5]] 0)) (g : Gud σ) (n : Nl [] σ) :
    ∃ s' : S3, (∀ ks a8 a4 a2, rE fns fa_spec_TrimChecker 0 (.code lo_spec_TrimChecker_2 :: .inBlock 4 :: ks) [(13, i64 0), (12, .own (σ.length + 2) 0 0 0), (11, .own (σ.length + 1) 0 0 0), (10, .own σ.length 0 0 0), (9, i64 (m : Nat)), (8, a8), (7, .ptr 1 0 0 0), (5, lst 1 T), (4, a4), (2, a2), (1, CkP c)] (σ ++ [.row 2 [] 0] ++ [.row 1 [] 0] ++ [.row 1 [] 0]) =
      rE fns fa_spec_TrimChecker 0 ks [(12, .own (σ.length + 2) s'.2.2.2 0 2), (11, .own (σ.length + 1) s'.2.2.1 0 2), (10, .own σ.length s'.2.1 0 2), (9, i64 (m : Nat)), (8, a8), (7, .ptr 1 0 0 0), (5, lst 1 T), (4, a4), (2, a2), (1, CkP c)] s'.1) ∧ RwI σ (trC c L st) (trB c L st) (trI c L st) S 2 s' := by
  obtain ⟨s1, k1, h1⟩ := loop_known (F := T2 c T m σ.length) (n := 2) (I := RwI σ (trC c L st) (trB c L st) (trI c L st) S) (fun k s hk hi => ro_tr_2 W hS hc k s hk hi) (RwI.start (trC c L st) (trB c L st) (trI c L st) S g n)
  refine ⟨s1, fun ks a8 a4 a2 => ?_, h1⟩
  have e := congrFun (congrFun (congrFun (congrFun k1 ks) a8) a4) a2
  unfold T2 at e
  have e2 : rE fns fa_spec_TrimChecker 0 (.code lo_spec_TrimChecker_2 :: .inBlock 4 :: ks) [(13, i64 ((2 : Nat) : Int)), (12, .own (σ.length + 2) s1.2.2.2 0 2), (11, .own (σ.length + 1) s1.2.2.1 0 2), (10, .own σ.length s1.2.1 0 2), (9, i64 (m : Nat)), (8, a8), (7, .ptr 1 0 0 0), (5, lst 1 T), (4, a4), (2, a2), (1, CkP c)] s1.1 =
      rE fns fa_spec_TrimChecker 0 ks [(12, .own (σ.length + 2) s1.2.2.2 0 2), (11, .own (σ.length + 1) s1.2.2.1 0 2), (10, .own σ.length s1.2.1 0 2), (9, i64 (m : Nat)), (8, a8), (7, .ptr 1 0 0 0), (5, lst 1 T), (4, a4), (2, a2), (1, CkP c)] s1.1 := by
    rw [l_spec_TrimChecker_2]
    simp [lb_spec_TrimChecker_2]
  rw [e2] at e
  exact e
/-! ### Loop 3: the states -/
def TrX (c : GChecker) (L : List Int) (S : Nat) (x1 : Int) (k : Nat) (s : S4) : Prop := ∃ ib ir ii, BtX (trA c L) (fun s => (List.range 2).map (trC c L s)) (fun s => (List.range 2).map fun k => (List.range (S + 1)).map (trB c L s k)) (fun s => (List.range 2).map (trI c L s)) (S : Int) x1 k k k k ib ir ii s
noncomputable def T3 (c : GChecker) (L T : List Int) (ex : Bool) (k : Nat) (s : S4) (ks : List KI) : Option (PV × List AObj) :=
  rE fns fa_spec_TrimChecker 0 (.code lo_spec_TrimChecker_3 :: .inBlock 2 :: ks) [(8, i64 (k : Nat)), (7, .ptr 1 0 0 0), (5, lst 1 T), (4, .list 1 (L.map Enc.pv) ex), (2, .ptr 0 0 0 0), (1, CkP c)] s.1
set_option maxHeartbeats 32000000 in
theorem ro_tr_3 {c : GChecker} {L T : List Int} (K : TrK c L T) {S : Nat} (hcs : c.stack = (S : Int)) (hS : S ≤ 80) (x1 : Int) (ex : Bool) (k : Nat) (s : S4) (hk : k < L.length) (hi : TrX c L S x1 k s) : ∃ s' : S4, T3 c L T ex k s = T3 c L T ex (k + 1) s' ∧ TrX c L S x1 (k + 1) s' := by
  obtain ⟨σ, va, vb, vr, vi⟩ := s
  obtain ⟨ib, ir, ii, hX⟩ := hi
  obtain ⟨m, em, W⟩ := K.row hcs hk
  have hL := K.tl.len
  have hg0 := hX.g; have hn0 := hX.n; have hc0 := hX.r1; have hl6 := hX.l
  obtain ⟨z1, z2, z3, z4⟩ := hX.v
  simp only at hg0 hn0 hc0 hl6 z1 z2 z3 z4
  have ibl : ∀ i ∈ ib, i < σ.length := by obtain ⟨_, h⟩ := hX.b; exact h.lt
  have irl : ∀ i ∈ ir, i < σ.length := by obtain ⟨_, h⟩ := hX.r; exact h.lt
  have iil : ∀ i ∈ ii, i < σ.length := by obtain ⟨_, h⟩ := hX.i; exact h.lt
  obtain ⟨⟨τ, vp, vq, vw⟩, k1, w⟩ := lo_tr_2 W hS hc0 hg0 hn0
  obtain ⟨wp, ⟨eq, iq, wq, dq⟩, ww, we, wg, wn, _⟩ := w
  simp only at wp wq ww we wg wn k1
  have op := wp.own (by simp)
  have oq := wq.own (by simp)
  have ow := ww.own (by simp)
  simp only [List.length_map, List.length_range] at op oq ow
  have iqn : ∀ i ∈ iq, σ.length + 1 ≤ i ∧ i ≠ σ.length + 2 := fun i hi => by have := dq i hi; omega
  have h0 := hX.ext we wg wn
  obtain ⟨σa1, σ1, a1, a2, a3, a4, a5, kk1, l1, h1⟩ := h0.pushA
  have op1 := kk1.own l1 op (fun j hj => by simp at hj; omega)
  have oq1 := kk1.own l1 oq (fun j hj => by have := iqn j hj; omega)
  have ow1 := kk1.own l1 ow (fun j hj => by simp at hj; omega)
  obtain ⟨eb, σa2, σ2, b1, b2, b3, b4, b5, b6, kk2, l2, h2⟩ := h1.pushB op1 (fun j hj => by
    simp at hj; subst hj
    exact ⟨by omega, fun h => by have := ibl _ h; omega, fun h => by have := irl _ h; omega, fun h => by have := iil _ h; omega⟩) (by simp [PV.nl])
  have oq2 := kk2.own l2 oq1 (fun j hj => by have := iqn j hj; omega)
  have ow2 := kk2.own l2 ow1 (fun j hj => by simp at hj; omega)
  obtain ⟨er, σa3, σ3, c1, c2, c3, c4, c5, c6, kk3, l3, h3⟩ := h2.pushR oq2 (fun j hj => by
    have hj' := iqn j hj
    exact ⟨by omega, fun h => by (rcases List.mem_append.1 h with h | h); (have := ibl _ h; omega); (simp at h; omega), fun h => by have := irl _ h; omega, fun h => by have := iil _ h; omega⟩) (by simp [PV.nl])
  have ow3 := kk3.own l3 ow2 (fun j hj => by simp at hj; omega)
  obtain ⟨ei, σa4, σ4, d1, d2, d3, d4, d5, d6, kk4, l4, h4⟩ := h3.pushI ow3 (fun j hj => by
    simp at hj; subst hj
    exact ⟨by omega, fun h => by (rcases List.mem_append.1 h with h | h); (have := ibl _ h; omega); (simp at h), fun h => by (rcases List.mem_append.1 h with h | h); (have := irl _ h; omega); (have := iqn _ h; omega), fun h => by have := iil _ h; omega⟩) (by simp [PV.nl])
  refine ⟨(σ4, va + 1, vb + 1, vr + 1, vi + 1), ?_, ⟨_, _, _, h4⟩⟩
  obtain ⟨_, _, _, ha, ea⟩ := W
  funext ks
  unfold T3
  have hwk := wrap_i64 (n := k + 1) (by omega)
  have hlt : (k : Int) < L.length := by omega
  have bb : (k + 1) * 24 ≤ 140737488355328 ∧ (k + 1) * 1 ≤ 140737488355328 ∧ k + 1 ≤ 140737488355328 := by omega
  have v5 : va < 999999 ∧ vb < 999999 ∧ vr < 999999 ∧ vi < 999999 := by omega
  rw [l_spec_TrimChecker_3]
  simp [-callN] at k1 hc0 a1 a2 a3 a4 a5 b1 b2 b3 b4 b5 b6 c1 c2 c3 c4 c5 c6 d1 d2 d3 d4 d5 d6
  simp [-callN, lb_spec_TrimChecker_3, hk, hlt, em, ha, ea, k1, hc0, a1, a2, a3, a4, a5, b1, b2, b3, b4, b5, b6, c1, c2, c3, c4, c5, c6, d1, d2, d3, d4, d5, d6, hwk, bb, v5, setCells]
  done
end Go.Proofs.Ytoliadfdklfmfaa

set_option linter.unusedVariables false
set_option linter.unusedSimpArgs false
set_option maxRecDepth 100000
namespace Go.Proofs.Ytoliadfdklfmfaa
open Aw
theorem lo_tr_3 {c : GChecker} {L T : List Int} (K : TrK c L T) {S : Nat} (hcs : c.stack = (S : Int)) (hS : S ≤ 80) (x1 : Int) (ex : Bool) : ∃ s' : S4, (∀ ks, rE fns fa_spec_TrimChecker 0 (.code lo_spec_TrimChecker_3 :: .inBlock 2 :: ks) [(8, i64 0), (7, .ptr 1 0 0 0), (5, lst 1 T), (4, .list 1 (L.map Enc.pv) ex), (2, .ptr 0 0 0 0), (1, CkP c)] [.row 6 [zCk] 0, ckX (S : Nat) x1 0 0 0 0 0 0 0 0, .row 1 [] 0, .row 1 [] 0, .row 1 [] 0, .row 1 [] 0] =
      rE fns fa_spec_TrimChecker 0 ks [(7, .ptr 1 0 0 0), (2, .ptr 0 0 0 0)] s'.1) ∧ TrX c L S x1 L.length s' := by
  obtain ⟨s1, k1, h1⟩ := loop_known (F := T3 c L T ex) (n := L.length) (I := TrX c L S x1) (fun m s hm hi => ro_tr_3 K hcs hS x1 ex m s hm hi) ⟨_, _, _, BtX.start _ _ _ _ _ _⟩
  refine ⟨s1, fun ks => ?_, h1⟩
  have e := congrFun k1 ks
  unfold T3 at e
  have e2 : rE fns fa_spec_TrimChecker 0 (.code lo_spec_TrimChecker_3 :: .inBlock 2 :: ks) [(8, i64 (L.length : Nat)), (7, .ptr 1 0 0 0), (5, lst 1 T), (4, .list 1 (L.map Enc.pv) ex), (2, .ptr 0 0 0 0), (1, CkP c)] s1.1 =
      rE fns fa_spec_TrimChecker 0 ks [(7, .ptr 1 0 0 0), (2, .ptr 0 0 0 0)] s1.1 := by
    rw [l_spec_TrimChecker_3]
    simp [lb_spec_TrimChecker_3]
  rw [e2] at e
  simpa using e
set_option maxHeartbeats 8000000 in
theorem spC_TrimChecker (c : GChecker) (hz : Siz.size c ≤ 1048576) : ∃ q, ev fns i_spec_TrimChecker [c.v] [] = some (.tup [q, i64 (tkK c)], []) ∧ q.bel 0 = true ∧ PV.ty (Own.sh GChecker) q = Enc.pv (tkX c) := by
  have hv := ev_spec_l02Ok c hz
  unfold tkK tkX
  cases c1 : okCk c
  · rw [c1] at hv
    simp at hv
    refine ⟨zCk, go_spec_TrimChecker (by simp) ?_, ?_, ?_⟩
    · simp [ac_spec_TrimChecker, hv, setCells, dfr, mapO]
      done
    · simp [PV.bel, PV.bels]
    · rfl
  · rw [c1] at hv
    have hu := ev_spec_l02Used c c1
    have hL := usL_tr c1
    have g1 := (okCk_len c1).1
    have g2 := (okCk_len c1).2.1
    simp only [inR, Bool.and_eq_true, decide_eq_true_eq] at g1 g2
    obtain ⟨T, hT, k0⟩ := lo_tr_0 hL (asc_nodup (usL_asc c)) (by omega) (exU (usL c))
    have K := usL_trK c1 hT
    generalize usL c = L at *
    have hlen := hL.len
    obtain ⟨S, hS⟩ : ∃ S : Nat, c.stack = (S : Int) := ⟨c.stack.toNat, by omega⟩
    have hX : tkOf c L = bltCk L.length S (trP L c.start) (trA c L) (trC c L) (trB c L) (trI c L) := by unfold tkOf; rw [hS]; rfl
    have s0 := hL.mem _ K.st
    have sT := hT.get hL K.nd K.st
    obtain ⟨sl, se⟩ := List.getElem?_eq_some_iff.1 sT
    obtain ⟨⟨σ, va, vb, vr, vi⟩, k1, ib, ir, ii, hi⟩ := lo_tr_3 K hS (by omega) (trP L c.start) (exU L)
    obtain ⟨r0, r1, ha, ⟨eb, hb⟩, ⟨er, hr⟩, ⟨ei, hii⟩, db, dr, di, dbr, dbi, dri, hl6, hg, hnl, _⟩ := hi
    simp only at r0 r1 ha hb hr hii hl6 hg hnl
    have KK := Keep.set σ 0 (ckX (S : Nat) (trP L c.start) va L.length vb L.length vr L.length vi L.length)
    have oa := KK.own (ha.own (by simp; omega)) (by simp)
    have ob := KK.own (hb.own (by simp; omega)) (fun i hi hj => by simp at hj; have := db i hi; omega)
    have or_ := KK.own (hr.own (by simp; omega)) (fun i hi hj => by simp at hj; have := dr i hi; omega)
    have oi := KK.own (hii.own (by simp; omega)) (fun i hi hj => by simp at hj; have := di i hi; omega)
    simp only [List.length_map, List.length_range] at oa ob or_ oi
    have o : Own.own (σ.set 0 (ckX (S : Nat) (trP L c.start) va L.length vb L.length vr L.length vi L.length)) ([] ++ [] ++ [2] ++ ib ++ ir ++ ii) (.agg [i64 (S : Nat), i64 (trP L c.start), .own 2 va 0 L.length, .own 3 vb 0 L.length, .own 4 vr 0 L.length, .own 5 vi 0 L.length]) (tkOf c L) := by
      rw [hX]
      exact own_Checker.2 ⟨[], _, [], _, [2], _, ib, _, ir, _, ii, _, rfl, rfl, ⟨rfl, rfl⟩, ⟨rfl, rfl⟩, oa.own, ob.own, or_.own, oi.own⟩
    obtain ⟨q, hq, hty⟩ := Own.read o 8 (by decide)
    have hd : dfr (σ.set 0 (ckX (S : Nat) (trP L c.start) va L.length vb L.length vr L.length vi L.length)) 9 (.tup [.agg [i64 (S : Nat), i64 (trP L c.start), .own 2 va 0 L.length, .own 3 vb 0 L.length, .own 4 vr 0 L.length, .own 5 vi 0 L.length], i64 0]) = some (.tup [q, i64 0]) := by
      show (mapO (dfr _ 8) _).map PV.tup = _
      simp only [mapO, hq]
      simp [dfr]
    rw [if_pos rfl, if_pos rfl]
    refine ⟨q, go_spec_TrimChecker (by simp) ?_, dfr_bel hq, hty⟩
    have gg : Gud (σ.set 0 (ckX (S : Nat) (trP L c.start) va L.length vb L.length vr L.length vi L.length)) := Gud.set hg _ _ _ (by simp [PV.bels, PV.bel]; omega)
    unfold Gud at gg
    have q0 : ∀ r, (σ.set 0 r)[0]? = some r := fun r => List.getElem?_set_self (by omega)
    have w0 := wrap_i64 (n := (c.accept.length : Int)) (by omega)
    have hTl := hT.len
    have b0 : (c.accept.length : Int) * 8 ≤ 281474976710656 ∧ (c.accept.length : Int) ≤ 281474976710656 ∧ c.accept.length * 8 ≤ 140737488355328 ∧ c.accept.length ≤ 140737488355328 := by omega
    rw [← hS] at k1 r1 gg hd
    have st1 : c.start < (c.accept.length : Int) := by omega
    have st2 : c.start.toNat < c.accept.length := by omega
    simp [-dfr] at k0 k1 r0 r1 gg q0 hd hv hu
    simp [-dfr, frBel, PV.bel, PV.bels, ac_spec_TrimChecker, hv, hu, w0, b0, k0, k1, r0, r1, gg, q0, hd, hTl, s0.1, st1, st2, se, show 2 < σ.length by omega, show 3 < σ.length by omega, show 4 < σ.length by omega, show 5 < σ.length by omega, setCells]
    done
theorem sum_map_leT {α β : Type} [Siz β] (f : α → β) (B : Nat) (h : ∀ x, Siz.size (f x) ≤ B) : ∀ l : List α, Siz.sum (l.map f) ≤ l.length * B
  | [] => Nat.zero_le _
  | x :: l => by
    show Siz.size (f x) + Siz.sum (l.map f) ≤ _
    have h1 := h x
    have h2 := sum_map_leT f B h l
    rw [List.length_cons, Nat.succ_mul]; omega
theorem size_map_leT {α β : Type} [Siz β] (f : α → β) (B : Nat) (h : ∀ x, Siz.size (f x) ≤ B) (l : List α) : Siz.size (l.map f) ≤ l.length * (B + 1) := by
  have := sum_map_leT f B h l
  rw [Siz.size_list, List.length_map, Nat.mul_add]; omega
theorem leC_TrimChecker (c : GChecker) (hz : Siz.size c ≤ 1048576) : Siz.size (tkX c) ≤ 1048576 := by
  unfold tkX
  split
  · rename_i h1
    have hL := (usL_tr h1).len
    have g2 := (okCk_len h1).2.1
    simp only [inR, Bool.and_eq_true, decide_eq_true_eq] at g2
    generalize usL c = L at *
    rw [size_Checker]
    unfold tkOf bltCk
    simp only
    obtain ⟨S, hS⟩ : ∃ S : Nat, c.stack.toNat = S ∧ S ≤ 80 := ⟨c.stack.toNat, rfl, by omega⟩
    rw [hS.1]
    have b1 : Siz.size ((List.range L.length).map (trA c L)) ≤ 100 := by rw [Siz.size_flat_bool]; simp; omega
    have b2 := size_map_leT (fun s => (List.range 2).map (trC c L s)) 2 (fun s => by rw [Siz.size_flat_Push]; simp) (List.range L.length)
    have b3 := size_map_leT (fun s => (List.range 2).map fun k => (List.range (S + 1)).map (trB c L s k)) 164 (fun s => by
      have := size_map_leT (fun k => (List.range (S + 1)).map (trB c L s k)) 81 (fun k => by rw [Siz.size_flat_int]; simp; omega) (List.range 2)
      simpa using this) (List.range L.length)
    have b4 := size_map_leT (fun s => (List.range 2).map (trI c L s)) 2 (fun s => by rw [Siz.size_flat_int]; simp) (List.range L.length)
    rw [List.length_range] at b2 b3 b4
    generalize L.length = N at *
    omega
  · simp [size_Checker, Siz.size_list, Siz.sum]
end Go.Proofs.Ytoliadfdklfmfaa
