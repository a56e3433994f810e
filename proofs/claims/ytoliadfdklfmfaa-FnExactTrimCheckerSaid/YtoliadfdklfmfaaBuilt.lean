/- Checkers that are built out of functions: the program's built. -/
import Derived.Test.YtoliadfdklfmfaaNestF
set_option linter.unusedVariables false
set_option linter.unusedSimpArgs false
set_option maxRecDepth 100000
namespace Go.Proofs.Ytoliadfdklfmfaa
open Aw
/-! ### built -/
noncomputable def F0 (f5 : PV) (S : Nat) (id : Nat) (a20 a16 : PV) (k : Nat) (s : List AObj × Nat) (ks : List KI) (a33 a27 a26 a19 a18 a17 a15 a14 a6 a4 a3 a1 : PV) : Option (PV × List AObj) :=
  rE fns fa_impl_built 0 (.code lo_impl_built_0 :: .inBlock 4 :: ks) [(39, i64 (k : Nat)), (38, i64 ((S + 1 : Nat) : Int)), (33, a33), (27, a27), (26, a26), (21, .own id s.2 0 k), (20, a20), (19, a19), (18, a18), (17, a17), (16, a16), (15, a15), (14, a14), (6, a6), (5, f5), (4, a4), (3, a3), (1, a1)] s.1
set_option maxHeartbeats 8000000 in
theorem ro_built_0 (a16 a20 : PV) (B : Nat → Int) (f5 : PV) (S : Nat) (hS : S ≤ 900000) (hB : ∀ σ m, m ≤ S → callV fns (ev fns) f5 [a16, a20, i64 (m : Nat)] σ = some (i64 (B m), σ)) {σ0 : List AObj} (id : Nat) (k : Nat) (s : List AObj × Nat) (h : k < S + 1) (hi : FlI σ0 id B k s) :
    ∃ s' : List AObj × Nat, F0 f5 S id a20 a16 k s = F0 f5 S id a20 a16 (k + 1) s' ∧ FlI σ0 id B (k + 1) s' := by
  obtain ⟨σ, v⟩ := s
  refine ⟨_, ?_, hi.push (nl_int _)⟩
  have h1 := hi.l.at
  have hv : v < 999999 := by have := hi.v; simp only at this; omega
  have hw := wrap_i64 (n := k + 1) (by omega)
  have hb := hB σ k (by omega)
  have b1 : (k + 1) * 8 ≤ 140737488355328 := by omega
  have hlt : (k : Int) < S + 1 := by omega
  funext ks a33 a27 a26 a19 a18 a17 a15 a14 a6 a4 a3 a1
  unfold F0
  rw [l_impl_built_0]
  simp [-callN] at h1 hb
  simp [-callN, lb_impl_built_0, h, h1, hb, hw, b1, hlt, hv]
theorem lo_built_0 (a16 a20 : PV) (B : Nat → Int) (f5 : PV) (S : Nat) (hS : S ≤ 900000) (hB : ∀ σ m, m ≤ S → callV fns (ev fns) f5 [a16, a20, i64 (m : Nat)] σ = some (i64 (B m), σ)) {σ : List AObj} (g : Gud σ) (n : Nl [] σ) :
    ∃ s' : List AObj × Nat, (∀ ks a33 a27 a26 a19 a18 a17 a15 a14 a6 a4 a3 a1, rE fns fa_impl_built 0 (.code lo_impl_built_0 :: .inBlock 4 :: ks) [(39, i64 0), (38, i64 (S + 1)), (33, a33), (27, a27), (26, a26), (21, .own σ.length 0 0 0), (20, a20), (19, a19), (18, a18), (17, a17), (16, a16), (15, a15), (14, a14), (6, a6), (5, f5), (4, a4), (3, a3), (1, a1)] (σ ++ [.row 1 [] 0]) =
      rE fns fa_impl_built 0 ks [(33, a33), (27, a27), (26, a26), (21, .own σ.length s'.2 0 (S + 1)), (20, a20), (19, a19), (18, a18), (17, a17), (16, a16), (15, a15), (14, a14), (6, a6), (5, f5), (4, a4), (3, a3), (1, a1)] s'.1) ∧ FlI σ σ.length B (S + 1) s' := by
  obtain ⟨s1, k1, h1⟩ := loop_known (F := F0 f5 S σ.length a20 a16) (n := S + 1) (I := FlI σ σ.length B) (fun m s hm hi => ro_built_0 a16 a20 B f5 S hS hB σ.length m s hm hi) (FlI.start B g n)
  refine ⟨s1, fun ks a33 a27 a26 a19 a18 a17 a15 a14 a6 a4 a3 a1 => ?_, h1⟩
  have e := congrFun (congrFun (congrFun (congrFun (congrFun (congrFun (congrFun (congrFun (congrFun (congrFun (congrFun (congrFun (congrFun k1 ks) a33) a27) a26) a19) a18) a17) a15) a14) a6) a4) a3) a1
  unfold F0 at e
  have e2 : rE fns fa_impl_built 0 (.code lo_impl_built_0 :: .inBlock 4 :: ks) [(39, i64 ((S + 1 : Nat) : Int)), (38, i64 ((S + 1 : Nat) : Int)), (33, a33), (27, a27), (26, a26), (21, .own σ.length s1.2 0 (S + 1)), (20, a20), (19, a19), (18, a18), (17, a17), (16, a16), (15, a15), (14, a14), (6, a6), (5, f5), (4, a4), (3, a3), (1, a1)] s1.1 =
      rE fns fa_impl_built 0 ks [(33, a33), (27, a27), (26, a26), (21, .own σ.length s1.2 0 (S + 1)), (20, a20), (19, a19), (18, a18), (17, a17), (16, a16), (15, a15), (14, a14), (6, a6), (5, f5), (4, a4), (3, a3), (1, a1)] s1.1 := by
    rw [l_impl_built_0]
    simp [lb_impl_built_0]
  rw [e2] at e
  simpa using e
abbrev S3 := List AObj × Nat × Nat × Nat
/-- The three lists of one state of a checker that is built, behind a state: the calls, the returns, the inner moves. -/
structure RwI (σ0 : List AObj) (C : Nat → GPush) (B : Nat → Nat → Int) (I : Nat → Int) (S : Nat) (k : Nat) (s : S3) : Prop where
  p : Lst s.1 σ0.length s.2.1 (((List.range k).map C).map Enc.pv) [σ0.length] ((List.range k).map C)
  q : ∃ es ids, Lst s.1 (σ0.length + 1) s.2.2.1 es ids ((List.range k).map fun k => (List.range (S + 1)).map (B k)) ∧ ∀ i ∈ ids, i = σ0.length + 1 ∨ σ0.length + 3 ≤ i
  w : Lst s.1 (σ0.length + 2) s.2.2.2 (((List.range k).map I).map Enc.pv) [σ0.length + 2] ((List.range k).map I)
  e : Ext σ0 s.1
  g : Gud s.1
  n : Nl [] s.1
  v : s.2.1 ≤ k ∧ s.2.2.1 ≤ k ∧ s.2.2.2 ≤ k
theorem nl_push (x : GPush) : (Enc.pv x).nl = true := by simp [PV.nl, PV.nls]
noncomputable def F1 (f4 f5 f6 : PV) (S n0 : Nat) (a16 : PV) (k : Nat) (s : S3) (ks : List KI) (a27 a26 a14 a3 : PV) : Option (PV × List AObj) :=
  rE fns fa_impl_built 0 (.code lo_impl_built_1 :: .inBlock 2 :: ks) [(33, i64 (k : Nat)), (27, a27), (26, a26), (19, .own (n0 + 2) s.2.2.2 0 k), (18, .own (n0 + 1) s.2.2.1 0 k), (17, .own n0 s.2.1 0 k), (16, a16), (15, .ptr 1 0 0 0), (14, a14), (6, f6), (5, f5), (4, f4), (3, a3), (1, i64 (S : Nat))] s.1
set_option maxHeartbeats 16000000 in
theorem ro_built_1 (a16 : PV) (C : Nat → GPush) (B : Nat → Nat → Int) (I : Nat → Int) (f4 f5 f6 : PV) (S : Nat) (hS : S ≤ 900000)
    (hC : ∀ σ k, k < 2 → callV fns (ev fns) f4 [a16, i64 (k : Nat)] σ = some ((C k).v, σ)) (hB : ∀ σ k m, k < 2 → m ≤ S → callV fns (ev fns) f5 [a16, i64 (k : Nat), i64 (m : Nat)] σ = some (i64 (B k m), σ)) (hI : ∀ σ k, k < 2 → callV fns (ev fns) f6 [a16, i64 (k : Nat)] σ = some (i64 (I k), σ))
    {σ0 : List AObj} {x0 x1 : PV} {i2 v2 n2 i3 v3 n3 i4 v4 n4 i5 v5 n5 : Nat} (hc : σ0[1]? = some (.row 6 [.agg [x0, x1, .own i2 v2 0 n2, .own i3 v3 0 n3, .own i4 v4 0 n4, .own i5 v5 0 n5]] 0)) (k : Nat) (s : S3) (h : k < 2) (hi : RwI σ0 C B I S k s) :
    ∃ s' : S3, F1 f4 f5 f6 S σ0.length a16 k s = F1 f4 f5 f6 S σ0.length a16 (k + 1) s' ∧ RwI σ0 C B I S (k + 1) s' := by
  obtain ⟨σ, vp, vq, vw⟩ := s
  obtain ⟨hp, ⟨es, ids, hq, hqi⟩, hw, he, hg, hn, v1, v2, v3⟩ := hi
  simp only at hp hq hw he hg hn v1 v2 v3
  have hlen := he.len
  have hc1 := he.get hc
  have hpl := hp.lt σ0.length (by simp)
  have hql := hq.lt _ hq.mem
  have hwl := hw.lt (σ0.length + 2) (by simp)
  obtain ⟨s1, k1, hf⟩ := lo_built_0 a16 (i64 (k : Nat)) (B k) f5 S hS (fun σ m hm => hB σ k m h hm) hg hn
  obtain ⟨τ, vl⟩ := s1
  have hl := hf.l.own (by simp; omega)
  have hfe := hf.e
  have hfg := hf.g
  have hfn := hf.n
  simp only [List.length_map, List.length_range] at hl hfe hfg hfn
  have hlt := hfe.len
  -- the appends
  have p1 := (hp.ext hfe)
  have p2 := p1.push (own_flatE τ (C k)) (by simp)
  have K1 := Keep.set τ σ0.length (.row (Enc.sz GPush) (((List.range k).map C).map Enc.pv ++ [Enc.pv (C k)]) (vp + 1))
  have q1 := (hq.ext hfe).keep K1 (fun i hi hj => by simp at hj; have := hqi i hi; omega)
  have l1 := K1.own hl (fun i hi hj => by simp at hi hj; omega)
  have q2 := q1.push l1 (fun i hi hj => by simp at hj; have := hq.lt i hi; omega)
  have g1 : Gud (τ.set σ0.length (.row (Enc.sz GPush) (((List.range k).map C).map Enc.pv ++ [Enc.pv (C k)]) (vp + 1))) :=
    Gud.set hfg _ _ _ (by rw [bels_append, bels_map]; simp only [PV.bels, Bool.and_true, Bool.true_and]; exact (own_flatE τ (C k)).bel)
  have n1 : Nl [] (τ.set σ0.length (.row (Enc.sz GPush) (((List.range k).map C).map Enc.pv ++ [Enc.pv (C k)]) (vp + 1))) :=
    hfn.set _ (row_nl (nls_append (hfn.at (by simp) p1.at) (by simp only [PV.nls, Bool.and_true]; exact nl_push _)))
  have hat2 := q1.at
  generalize hσ1 : τ.set σ0.length (.row (Enc.sz GPush) (((List.range k).map C).map Enc.pv ++ [Enc.pv (C k)]) (vp + 1)) = σ1 at *
  have K2 := Keep.set σ1 (σ0.length + 1) (.row (Enc.sz (List Int)) (es ++ [.own σ.length vl 0 (S + 1)]) (vq + 1))
  have w1 := ((hw.ext hfe).keep K1 (fun i hi hj => by simp at hi hj; omega)).keep K2 (fun i hi hj => by simp at hi hj; omega)
  have w2 := w1.push (own_flatE _ (I k)) (by simp)
  have p3 := p2.keep K2 (fun i hi hj => by simp at hi hj; omega)
  have g2 : Gud (σ1.set (σ0.length + 1) (.row (Enc.sz (List Int)) (es ++ [.own σ.length vl 0 (S + 1)]) (vq + 1))) :=
    Gud.set g1 _ _ _ (by rw [bels_append, Bool.and_eq_true]; exact ⟨Gud.at g1 hat2, by simp only [PV.bels, Bool.and_true]; exact l1.bel⟩)
  have n2 : Nl [] (σ1.set (σ0.length + 1) (.row (Enc.sz (List Int)) (es ++ [.own σ.length vl 0 (S + 1)]) (vq + 1))) :=
    n1.set _ (row_nl (nls_append (n1.at (by simp) hat2) (by simp [PV.nls, PV.nl])))
  have hat3 := w1.at
  generalize hσ2 : σ1.set (σ0.length + 1) (.row (Enc.sz (List Int)) (es ++ [.own σ.length vl 0 (S + 1)]) (vq + 1)) = σ2 at *
  have K3 := Keep.set σ2 (σ0.length + 2) (.row (Enc.sz Int) (((List.range k).map I).map Enc.pv ++ [Enc.pv (I k)]) (vw + 1))
  have p4 := p3.keep K3 (fun i hi hj => by simp at hi hj; omega)
  have q3 := q2.keep K3 (fun i hi hj => by simp at hi hj; rcases hi with hi | hi; have := hqi i hi; omega; omega)
  refine ⟨(σ2.set (σ0.length + 2) (.row (Enc.sz Int) (((List.range k).map I).map Enc.pv ++ [Enc.pv (I k)]) (vw + 1)), vp + 1, vq + 1, vw + 1), ?_, ⟨?_, ⟨_, _, by rw [map_succ]; exact q3, ?_⟩, ?_, ?_, ?_, ?_, Nat.succ_le_succ v1, Nat.succ_le_succ v2, Nat.succ_le_succ v3⟩⟩
  · funext ks a27 a26 a14 a3
    unfold F1
    have h4 := fun σ => hC σ k h
    have h6 := fun σ => hI σ k h
    have hwk := wrap_i64 (n := k + 1) (by omega)
    have hwS := wrap_i64 (n := S + 1) (by omega)
    have hk2 : (k : Int) < 2 := by omega
    have lq := hq.len
    simp only [List.length_map, List.length_range] at lq
    have b1 : (k + 1) * 16 ≤ 140737488355328 ∧ (k + 1) * 24 ≤ 140737488355328 ∧ (k + 1) * 8 ≤ 140737488355328 := by omega
    have a1 := p1.at
    have v4 : vp < 999999 ∧ vq < 999999 ∧ vw < 999999 := by omega
    subst lq
    rw [l_impl_built_1]
    simp [-callN] at h4 h6 hc1 k1 a1 hat2 hat3 hσ1 hσ2
    simp [-callN, lb_impl_built_1, h, hk2, h4, h6, hc1, k1, a1, hat2, hat3, hσ1, hσ2, hwk, hwS, b1, v4]
    done
  · simp only; rw [map_succ]; simpa using p4
  · intro i hi
    rcases List.mem_append.1 hi with hi | hi
    · exact hqi i hi
    · simp at hi; omega
  · simp only; rw [map_succ]; simpa using w2
  · simp only; rw [← hσ2, ← hσ1]; exact ((Ext.trans he hfe).set (by omega) _ |>.set (by omega) _).set (by omega) _
  · exact Gud.set g2 _ _ _ (by rw [bels_append, bels_map]; simp only [PV.bels, Bool.and_true, Bool.true_and]; exact (own_flatE σ2 (I k)).bel)
  · exact n2.set _ (row_nl (nls_append (n2.at (by simp) hat3) (by simp only [PV.nls, Bool.and_true]; exact nl_int _)))
theorem RwI.start {σ : List AObj} (C : Nat → GPush) (B : Nat → Nat → Int) (I : Nat → Int) (S : Nat) (g : Gud σ) (n : Nl [] σ) : RwI σ C B I S 0 (σ ++ [.row 2 [] 0] ++ [.row 1 [] 0] ++ [.row 1 [] 0], 0, 0, 0) := by
  have l1 := Lst.new (α := GPush) σ 0
  have l2 := Lst.new (α := List Int) (σ ++ [.row 2 [] 0]) 0
  have l3 := Lst.new (α := Int) (σ ++ [.row 2 [] 0] ++ [.row 1 [] 0]) 0
  have e1 := Ext.snoc (σ ++ [.row 2 [] 0]) (.row 1 [] 0)
  have e2 := Ext.snoc (σ ++ [.row 2 [] 0] ++ [.row 1 [] 0]) (.row 1 [] 0)
  have g1 : Gud (σ ++ [.row 2 [] 0]) := Gud.snoc g (by simp [PV.bels])
  have g2 : Gud (σ ++ [.row 2 [] 0] ++ [.row 1 [] 0]) := Gud.snoc g1 (by simp [PV.bels])
  have n1 := n.app (τ := [.row 2 [] 0]) (by simp [AObj.nl, PV.nls])
  have n2 := n1.app (τ := [.row 1 [] 0]) (by simp [AObj.nl, PV.nls])
  refine ⟨?_, ⟨[], [σ.length + 1], ?_, by simp⟩, ?_, ⟨[.row 2 [] 0, .row 1 [] 0, .row 1 [] 0], by simp⟩, Gud.snoc g2 (by simp [PV.bels]), n2.app (by simp [AObj.nl, PV.nls]), by simp⟩
  · simpa using (l1.ext e1).ext e2
  · have := l2.ext e2
    simpa using this
  · simpa using l3
theorem lo_built_1 (a16 : PV) (C : Nat → GPush) (B : Nat → Nat → Int) (I : Nat → Int) (f4 f5 f6 : PV) (S : Nat) (hS : S ≤ 900000)
    (hC : ∀ σ k, k < 2 → callV fns (ev fns) f4 [a16, i64 (k : Nat)] σ = some ((C k).v, σ)) (hB : ∀ σ k m, k < 2 → m ≤ S → callV fns (ev fns) f5 [a16, i64 (k : Nat), i64 (m : Nat)] σ = some (i64 (B k m), σ)) (hI : ∀ σ k, k < 2 → callV fns (ev fns) f6 [a16, i64 (k : Nat)] σ = some (i64 (I k), σ))
    {σ : List AObj} {x0 x1 : PV} {i2 v2 n2 i3 v3 n3 i4 v4 n4 i5 v5 n5 : Nat} (hc : σ[1]? = some (.row 6 [.agg [x0, x1, .own i2 v2 0 n2, .own i3 v3 0 n3, .own i4 v4 0 n4, .own i5 v5 0 n5]] 0)) (g : Gud σ) (n : Nl [] σ) :
    ∃ s' : S3, (∀ ks a27 a26 a14 a3, rE fns fa_impl_built 0 (.code lo_impl_built_1 :: .inBlock 2 :: ks) [(33, i64 0), (27, a27), (26, a26), (19, .own (σ.length + 2) 0 0 0), (18, .own (σ.length + 1) 0 0 0), (17, .own σ.length 0 0 0), (16, a16), (15, .ptr 1 0 0 0), (14, a14), (6, f6), (5, f5), (4, f4), (3, a3), (1, i64 (S : Nat))] (σ ++ [.row 2 [] 0] ++ [.row 1 [] 0] ++ [.row 1 [] 0]) =
      rE fns fa_impl_built 0 ks [(27, a27), (26, a26), (19, .own (σ.length + 2) s'.2.2.2 0 2), (18, .own (σ.length + 1) s'.2.2.1 0 2), (17, .own σ.length s'.2.1 0 2), (16, a16), (15, .ptr 1 0 0 0), (14, a14), (6, f6), (5, f5), (4, f4), (3, a3), (1, i64 (S : Nat))] s'.1) ∧ RwI σ C B I S 2 s' := by
  obtain ⟨s1, k1, h1⟩ := loop_known (F := F1 f4 f5 f6 S σ.length a16) (n := 2) (I := RwI σ C B I S) (fun m s hm hi => ro_built_1 a16 C B I f4 f5 f6 S hS hC hB hI hc m s hm hi) (RwI.start C B I S g n)
  refine ⟨s1, fun ks a27 a26 a14 a3 => ?_, h1⟩
  have e := congrFun (congrFun (congrFun (congrFun (congrFun k1 ks) a27) a26) a14) a3
  unfold F1 at e
  have e2 : rE fns fa_impl_built 0 (.code lo_impl_built_1 :: .inBlock 2 :: ks) [(33, i64 ((2 : Nat) : Int)), (27, a27), (26, a26), (19, .own (σ.length + 2) s1.2.2.2 0 2), (18, .own (σ.length + 1) s1.2.2.1 0 2), (17, .own σ.length s1.2.1 0 2), (16, a16), (15, .ptr 1 0 0 0), (14, a14), (6, f6), (5, f5), (4, f4), (3, a3), (1, i64 (S : Nat))] s1.1 =
      rE fns fa_impl_built 0 ks [(27, a27), (26, a26), (19, .own (σ.length + 2) s1.2.2.2 0 2), (18, .own (σ.length + 1) s1.2.2.1 0 2), (17, .own σ.length s1.2.1 0 2), (16, a16), (15, .ptr 1 0 0 0), (14, a14), (6, f6), (5, f5), (4, f4), (3, a3), (1, i64 (S : Nat))] s1.1 := by
    rw [l_impl_built_1]
    simp [lb_impl_built_1]
  rw [e2] at e
  exact e
abbrev S4 := List AObj × Nat × Nat × Nat × Nat
@[simp] abbrev zCk : PV := .agg [i64 0, i64 0, .val (.slice none 0 0), .val (.slice none 0 0), .val (.slice none 0 0), .val (.slice none 0 0)]
@[simp] abbrev ckR (x0 x1 : Int) (k va vb vr vi : Nat) : AObj := .row 6 [.agg [i64 x0, i64 x1, .own 2 va 0 k, .own 3 vb 0 k, .own 4 vr 0 k, .own 5 vi 0 k]] 0
/-- A checker under way. -/
structure BtI (A : Nat → Bool) (C : Nat → Nat → GPush) (B : Nat → Nat → Nat → Int) (I : Nat → Nat → Int) (S : Nat) (x0 x1 : Int) (k : Nat) (s : S4) : Prop where
  r0 : s.1[0]? = some (.row 6 [zCk] 0)
  r1 : s.1[1]? = some (ckR x0 x1 k s.2.1 s.2.2.1 s.2.2.2.1 s.2.2.2.2)
  a : Lst s.1 2 s.2.1 (((List.range k).map A).map Enc.pv) [2] ((List.range k).map A)
  ex : ∃ eb ib er ir ei ii, Lst s.1 3 s.2.2.1 eb ib ((List.range k).map fun s => (List.range 2).map (C s)) ∧ Lst s.1 4 s.2.2.2.1 er ir ((List.range k).map fun s => (List.range 2).map fun k => (List.range (S + 1)).map (B s k)) ∧
    Lst s.1 5 s.2.2.2.2 ei ii ((List.range k).map fun s => (List.range 2).map (I s)) ∧ (∀ i ∈ ib, i = 3 ∨ 6 ≤ i) ∧ (∀ i ∈ ir, i = 4 ∨ 6 ≤ i) ∧ (∀ i ∈ ii, i = 5 ∨ 6 ≤ i) ∧ (∀ i ∈ ib, i ∉ ir) ∧ (∀ i ∈ ib, i ∉ ii) ∧ (∀ i ∈ ir, i ∉ ii)
  l : 6 ≤ s.1.length
  g : Gud s.1
  n : Nl [] s.1
  v : s.2.1 ≤ k ∧ s.2.2.1 ≤ k ∧ s.2.2.2.1 ≤ k ∧ s.2.2.2.2 ≤ k
noncomputable def F2 (f3 f4 f5 f6 : PV) (n S : Nat) (k : Nat) (s : S4) (ks : List KI) : Option (PV × List AObj) :=
  rE fns fa_impl_built 0 (.code lo_impl_built_2 :: .inBlock 0 :: ks) [(27, i64 (k : Nat)), (26, i64 (n : Nat)), (15, .ptr 1 0 0 0), (14, .ptr 0 0 0 0), (6, f6), (5, f5), (4, f4), (3, f3), (1, i64 (S : Nat))] s.1
theorem nl_bool (b : Bool) : (Enc.pv b).nl = true := by simp [PV.nl]
set_option maxHeartbeats 32000000 in
theorem ro_built_2 (A : Nat → Bool) (C : Nat → Nat → GPush) (B : Nat → Nat → Nat → Int) (I : Nat → Nat → Int) (f3 f4 f5 f6 : PV) (n S : Nat) (hS : S ≤ 900000) (hN : n ≤ 900000)
    (hA : ∀ σ s, s < n → callV fns (ev fns) f3 [i64 (s : Nat)] σ = some (bol (A s), σ)) (hC : ∀ σ s k, s < n → k < 2 → callV fns (ev fns) f4 [i64 (s : Nat), i64 (k : Nat)] σ = some ((C s k).v, σ))
    (hB : ∀ σ s k m, s < n → k < 2 → m ≤ S → callV fns (ev fns) f5 [i64 (s : Nat), i64 (k : Nat), i64 (m : Nat)] σ = some (i64 (B s k m), σ)) (hI : ∀ σ s k, s < n → k < 2 → callV fns (ev fns) f6 [i64 (s : Nat), i64 (k : Nat)] σ = some (i64 (I s k), σ))
    (x0 x1 : Int) (k : Nat) (s : S4) (h : k < n) (hi : BtI A C B I S x0 x1 k s) : ∃ s' : S4, F2 f3 f4 f5 f6 n S k s = F2 f3 f4 f5 f6 n S (k + 1) s' ∧ BtI A C B I S x0 x1 (k + 1) s' := by
  obtain ⟨σ, va, vb, vr, vi⟩ := s
  obtain ⟨r0, r1, ha, ⟨eb, ib, er, ir, ei, ii, hb, hr, hii, db, dr, di, dbr, dbi, dri⟩, hl6, hg, hn, z1, z2, z3, z4⟩ := hi
  simp only at r0 r1 ha hb hr hii hl6 hg hn z1 z2 z3 z4
  obtain ⟨s1, k1, w⟩ := lo_built_1 (i64 (k : Nat)) (C k) (B k) (I k) f4 f5 f6 S hS (fun σ j hj => hC σ k j h hj) (fun σ j m hj hm => hB σ k j m h hj hm) (fun σ j hj => hI σ k j h hj) r1 hg hn
  obtain ⟨τ, vp, vq, vw⟩ := s1
  obtain ⟨wp, ⟨eq, iq, wq, dq⟩, ww, we, wg, wn, _⟩ := w
  simp only at wp wq ww we wg wn
  have hlen := we.len
  have op := wp.own (by simp)
  have oq := wq.own (by simp)
  have ow := ww.own (by simp)
  simp only [List.length_map, List.length_range] at op oq ow
  have t0 := we.get r0
  have t1 := we.get r1
  have iqn : ∀ i ∈ iq, σ.length + 1 ≤ i := fun i hi => by have := dq i hi; omega
  have ibl : ∀ i ∈ ib, i < σ.length := hb.lt
  have irl : ∀ i ∈ ir, i < σ.length := hr.lt
  have iil : ∀ i ∈ ii, i < σ.length := hii.lt
  -- the appends
  have a1 := ha.ext we
  have a2 := a1.push (own_flatE τ (A k)) (by simp)
  have at2 := a1.at
  have K1 := Keep.set τ 2 (.row (Enc.sz Bool) (((List.range k).map A).map Enc.pv ++ [Enc.pv (A k)]) (va + 1))
  have g1 : Gud (τ.set 2 (.row (Enc.sz Bool) (((List.range k).map A).map Enc.pv ++ [Enc.pv (A k)]) (va + 1))) :=
    Gud.set wg _ _ _ (by rw [bels_append, bels_map]; simp only [PV.bels, Bool.and_true, Bool.true_and]; exact (own_flatE τ (A k)).bel)
  have n1 : Nl [] (τ.set 2 (.row (Enc.sz Bool) (((List.range k).map A).map Enc.pv ++ [Enc.pv (A k)]) (va + 1))) :=
    wn.set _ (row_nl (nls_append (wn.at (by simp) at2) (by simp only [PV.nls, Bool.and_true]; exact nl_bool _)))
  have b1 := (hb.ext we).keep K1 (fun i hi hj => by simp at hj; have := db i hi; omega)
  have rr1 := (hr.ext we).keep K1 (fun i hi hj => by simp at hj; have := dr i hi; omega)
  have i1 := (hii.ext we).keep K1 (fun i hi hj => by simp at hj; have := di i hi; omega)
  have op1 := K1.own op (fun i hi hj => by simp at hi hj; omega)
  have oq1 := K1.own oq (fun i hi hj => by simp at hj; have := iqn i hi; omega)
  have ow1 := K1.own ow (fun i hi hj => by simp at hi hj; omega)
  have t01 := K1.get (by simp) t0
  have t11 := K1.get (by simp) t1
  generalize hσ1 : τ.set 2 (.row (Enc.sz Bool) (((List.range k).map A).map Enc.pv ++ [Enc.pv (A k)]) (va + 1)) = σ1 at *
  have bt1 := b1.at
  have b2 := b1.push op1 (fun i hi hj => by simp at hj; have := ibl i hi; omega)
  have K2 := Keep.set σ1 3 (.row (Enc.sz (List GPush)) (eb ++ [.own σ.length vp 0 2]) (vb + 1))
  have g2 : Gud (σ1.set 3 (.row (Enc.sz (List GPush)) (eb ++ [.own σ.length vp 0 2]) (vb + 1))) :=
    Gud.set g1 _ _ _ (by rw [bels_append, Bool.and_eq_true]; exact ⟨Gud.at g1 bt1, by simp only [PV.bels, Bool.and_true]; exact op1.bel⟩)
  have n2 : Nl [] (σ1.set 3 (.row (Enc.sz (List GPush)) (eb ++ [.own σ.length vp 0 2]) (vb + 1))) :=
    n1.set _ (row_nl (nls_append (n1.at (by simp) bt1) (by simp [PV.nls, PV.nl])))
  have a3 := a2.keep K2 (by simp)
  have rr2 := rr1.keep K2 (fun i hi hj => by simp at hj; have := dr i hi; omega)
  have i2 := i1.keep K2 (fun i hi hj => by simp at hj; have := di i hi; omega)
  have oq2 := K2.own oq1 (fun i hi hj => by simp at hj; have := iqn i hi; omega)
  have ow2 := K2.own ow1 (fun i hi hj => by simp at hi hj; omega)
  have t02 := K2.get (by simp) t01
  have t12 := K2.get (by simp) t11
  generalize hσ2 : σ1.set 3 (.row (Enc.sz (List GPush)) (eb ++ [.own σ.length vp 0 2]) (vb + 1)) = σ2 at *
  have rt2 := rr2.at
  have rr3 := rr2.push oq2 (fun i hi hj => by have := irl i hi; have := iqn i hj; omega)
  have K3 := Keep.set σ2 4 (.row (Enc.sz (List (List Int))) (er ++ [.own (σ.length + 1) vq 0 2]) (vr + 1))
  have g3 : Gud (σ2.set 4 (.row (Enc.sz (List (List Int))) (er ++ [.own (σ.length + 1) vq 0 2]) (vr + 1))) :=
    Gud.set g2 _ _ _ (by rw [bels_append, Bool.and_eq_true]; exact ⟨Gud.at g2 rt2, by simp only [PV.bels, Bool.and_true]; exact oq2.bel⟩)
  have n3 : Nl [] (σ2.set 4 (.row (Enc.sz (List (List Int))) (er ++ [.own (σ.length + 1) vq 0 2]) (vr + 1))) :=
    n2.set _ (row_nl (nls_append (n2.at (by simp) rt2) (by simp [PV.nls, PV.nl])))
  have a4 := a3.keep K3 (by simp)
  have b3 := b2.keep K3 (fun i hi hj => by simp at hj hi; rcases hi with hi | hi; have := db i hi; omega; omega)
  have i3 := i2.keep K3 (fun i hi hj => by simp at hj; have := di i hi; omega)
  have ow3 := K3.own ow2 (fun i hi hj => by simp at hi hj; omega)
  have t03 := K3.get (by simp) t02
  have t13 := K3.get (by simp) t12
  generalize hσ3 : σ2.set 4 (.row (Enc.sz (List (List Int))) (er ++ [.own (σ.length + 1) vq 0 2]) (vr + 1)) = σ3 at *
  have it3 := i3.at
  have i4 := i3.push ow3 (fun i hi hj => by simp at hj; have := iil i hi; omega)
  have K4 := Keep.set σ3 5 (.row (Enc.sz (List Int)) (ei ++ [.own (σ.length + 2) vw 0 2]) (vi + 1))
  have g4 : Gud (σ3.set 5 (.row (Enc.sz (List Int)) (ei ++ [.own (σ.length + 2) vw 0 2]) (vi + 1))) :=
    Gud.set g3 _ _ _ (by rw [bels_append, Bool.and_eq_true]; exact ⟨Gud.at g3 it3, by simp only [PV.bels, Bool.and_true]; exact ow3.bel⟩)
  have n4 : Nl [] (σ3.set 5 (.row (Enc.sz (List Int)) (ei ++ [.own (σ.length + 2) vw 0 2]) (vi + 1))) :=
    n3.set _ (row_nl (nls_append (n3.at (by simp) it3) (by simp [PV.nls, PV.nl])))
  have a5 := a4.keep K4 (by simp)
  have b4 := b3.keep K4 (fun i hi hj => by simp at hj hi; rcases hi with hi | hi; have := db i hi; omega; omega)
  have rr4 := rr3.keep K4 (fun i hi hj => by simp at hj; rcases List.mem_append.1 hi with hi | hi; have := dr i hi; omega; have := iqn i hi; omega)
  have t04 := K4.get (by simp) t03
  have t14 := K4.get (by simp) t13
  generalize hσ4 : σ3.set 5 (.row (Enc.sz (List Int)) (ei ++ [.own (σ.length + 2) vw 0 2]) (vi + 1)) = σ4 at *
  have hl4 : σ4.length = τ.length := by rw [K4.1, K3.1, K2.1, K1.1]
  have K5 := Keep.set σ4 1 (ckR x0 x1 (k + 1) (va + 1) (vb + 1) (vr + 1) (vi + 1))
  refine ⟨(σ4.set 1 (ckR x0 x1 (k + 1) (va + 1) (vb + 1) (vr + 1) (vi + 1)), va + 1, vb + 1, vr + 1, vi + 1), ?_, ⟨?_, ?_, ?_, ⟨eb ++ [.own σ.length vp 0 2], ib ++ [σ.length], er ++ [.own (σ.length + 1) vq 0 2], ir ++ iq, ei ++ [.own (σ.length + 2) vw 0 2], ii ++ [σ.length + 2], ?_, ?_, ?_, ?_, ?_, ?_, ?_, ?_, ?_⟩, ?_, ?_, ?_, Nat.succ_le_succ z1, Nat.succ_le_succ z2, Nat.succ_le_succ z3, Nat.succ_le_succ z4⟩⟩
  · funext ks
    unfold F2
    have h3 := fun σ => hA σ k h
    have hwk := wrap_i64 (n := k + 1) (by omega)
    have hkn : (k : Int) < n := by omega
    have lb := hb.len
    have lr := hr.len
    have li := hii.len
    simp only [List.length_map, List.length_range] at lb lr li
    have bb : (k + 1) * 24 ≤ 140737488355328 ∧ (k + 1) * 1 ≤ 140737488355328 ∧ k + 1 ≤ 140737488355328 := by omega
    have q1 : ∀ r, (σ4.set 1 r)[1]? = some r := fun r => List.getElem?_set_self (by omega)
    have v5 : va < 999999 ∧ vb < 999999 ∧ vr < 999999 ∧ vi < 999999 := by omega
    rw [l_impl_built_2]
    simp [-callN] at h3 r1 t1 t11 t12 t13 t14 k1 at2 bt1 rt2 it3 hσ1 hσ2 hσ3 hσ4 q1
    simp [-callN, lb_impl_built_2, h, hkn, h3, r1, t1, t11, t12, t13, t14, k1, at2, bt1, rt2, it3, hσ1, hσ2, hσ3, hσ4, q1, lb, lr, li, hwk, bb, v5, setCells]
    done
  · exact K5.get (by simp) t04
  · exact List.getElem?_set_self (by omega)
  · have := a5.keep K5 (by simp)
    simp only; rw [map_succ]; simpa using this
  · have := b4.keep K5 (fun i hi hj => by simp at hj hi; rcases hi with hi | hi; have := db i hi; omega; omega)
    simp only; rw [map_succ]; exact this
  · have := rr4.keep K5 (fun i hi hj => by simp at hj; rcases List.mem_append.1 hi with hi | hi; have := dr i hi; omega; have := iqn i hi; omega)
    simp only; rw [map_succ]; exact this
  · have := i4.keep K5 (fun i hi hj => by simp at hj hi; rcases hi with hi | hi; have := di i hi; omega; omega)
    simp only; rw [map_succ]; exact this
  · intro i hi; rcases List.mem_append.1 hi with hi | hi; exact db i hi; simp at hi; omega
  · intro i hi; rcases List.mem_append.1 hi with hi | hi; exact dr i hi; have := iqn i hi; omega
  · intro i hi; rcases List.mem_append.1 hi with hi | hi; exact di i hi; simp at hi; omega
  · intro i hi hj
    rcases List.mem_append.1 hi with hi | hi <;> rcases List.mem_append.1 hj with hj | hj
    · exact dbr i hi hj
    · have := ibl i hi; have := iqn i hj; omega
    · simp at hi; have := irl i hj; omega
    · simp at hi; have := iqn i hj; omega
  · intro i hi hj
    rcases List.mem_append.1 hi with hi | hi <;> rcases List.mem_append.1 hj with hj | hj
    · exact dbi i hi hj
    · simp at hj; have := ibl i hi; omega
    · simp at hi; have := iil i hj; omega
    · simp at hi hj; omega
  · intro i hi hj
    rcases List.mem_append.1 hi with hi | hi <;> rcases List.mem_append.1 hj with hj | hj
    · exact dri i hi hj
    · simp at hj; have := irl i hi; omega
    · have := iqn i hi; have := iil i hj; omega
    · simp at hj; have := dq i hi; omega
  · simp only [List.length_set]; omega
  · exact Gud.set g4 _ _ _ (by simp [PV.bels, PV.bel]; omega)
  · exact n4.set _ (by simp [AObj.nl, PV.nls, PV.nl])
def bltCk (n S : Nat) (x1 : Int) (A : Nat → Bool) (C : Nat → Nat → GPush) (B : Nat → Nat → Nat → Int) (I : Nat → Nat → Int) : GChecker :=
  ⟨S, x1, (List.range n).map A, (List.range n).map fun s => (List.range 2).map (C s), (List.range n).map fun s => (List.range 2).map fun k => (List.range (S + 1)).map (B s k), (List.range n).map fun s => (List.range 2).map (I s)⟩
theorem BtI.start (A : Nat → Bool) (C : Nat → Nat → GPush) (B : Nat → Nat → Nat → Int) (I : Nat → Nat → Int) (S : Nat) (x0 x1 : Int) :
    BtI A C B I S x0 x1 0 ([.row 6 [zCk] 0, ckR x0 x1 0 0 0 0 0, .row 1 [] 0, .row 1 [] 0, .row 1 [] 0, .row 1 [] 0], 0, 0, 0, 0) := by
  refine ⟨rfl, rfl, ⟨rfl, rfl, ⟨[], rfl, trivial⟩, by simp, by simp⟩, ⟨[], [3], [], [4], [], [5], ⟨rfl, rfl, ⟨[], rfl, trivial⟩, by simp, by simp⟩, ⟨rfl, rfl, ⟨[], rfl, trivial⟩, by simp, by simp⟩, ⟨rfl, rfl, ⟨[], rfl, trivial⟩, by simp, by simp⟩, by simp, by simp, by simp, by simp, by simp, by simp⟩, by simp, ?_, ?_, by simp⟩
  · simp [Gud, objsBel, PV.bels, PV.bel]
  · refine GoodN.nlX ⟨?_, ?_⟩
    · simp [Gud, objsBel, PV.bels, PV.bel]
    · simp [AObj.nl, PV.nls, PV.nl]
set_option maxHeartbeats 16000000 in
theorem ev_impl_built (A : Nat → Bool) (C : Nat → Nat → GPush) (B : Nat → Nat → Nat → Int) (I : Nat → Nat → Int) (f3 f4 f5 f6 : PV) (hf : PV.bels 0 [f3, f4, f5, f6] = true) (n S : Nat) (hS : S ≤ 900000) (hN : n ≤ 900000) (x1 : Int)
    (hA : ∀ σ s, s < n → callV fns (ev fns) f3 [i64 (s : Nat)] σ = some (bol (A s), σ)) (hC : ∀ σ s k, s < n → k < 2 → callV fns (ev fns) f4 [i64 (s : Nat), i64 (k : Nat)] σ = some ((C s k).v, σ))
    (hB : ∀ σ s k m, s < n → k < 2 → m ≤ S → callV fns (ev fns) f5 [i64 (s : Nat), i64 (k : Nat), i64 (m : Nat)] σ = some (i64 (B s k m), σ)) (hI : ∀ σ s k, s < n → k < 2 → callV fns (ev fns) f6 [i64 (s : Nat), i64 (k : Nat)] σ = some (i64 (I s k), σ)) :
    ∃ p τ ids, ev fns i_impl_built [i64 (n : Nat), i64 (S : Nat), i64 x1, f3, f4, f5, f6] [] = some (p, τ) ∧ OwnIn τ ids p (bltCk n S x1 A C B I) ∧ GoodN τ := by
  obtain ⟨s1, k1, hi⟩ := loop_known (F := F2 f3 f4 f5 f6 n S) (n := n) (I := BtI A C B I S S x1) (fun k s h hi => ro_built_2 A C B I f3 f4 f5 f6 n S hS hN hA hC hB hI S x1 k s h hi) (BtI.start A C B I S S x1)
  obtain ⟨σ, va, vb, vr, vi⟩ := s1
  obtain ⟨r0, r1, ha, ⟨eb, ib, er, ir, ei, ii, hb, hr, hii, db, dr, di, dbr, dbi, dri⟩, hl6, hg, hn, _⟩ := hi
  simp only at r0 r1 ha hb hr hii hl6 hg hn
  have K := Keep.set σ 0 (ckR S x1 n va vb vr vi)
  have oa := K.own (ha.own (by simp; omega)) (by simp)
  have ob := K.own (hb.own (by simp; omega)) (fun i hi hj => by simp at hj; have := db i hi; omega)
  have or_ := K.own (hr.own (by simp; omega)) (fun i hi hj => by simp at hj; have := dr i hi; omega)
  have oi := K.own (hii.own (by simp; omega)) (fun i hi hj => by simp at hj; have := di i hi; omega)
  simp only [List.length_map, List.length_range] at oa ob or_ oi
  refine ⟨.agg [i64 S, i64 x1, .own 2 va 0 n, .own 3 vb 0 n, .own 4 vr 0 n, .own 5 vi 0 n], σ.set 0 (ckR S x1 n va vb vr vi), [] ++ [] ++ [2] ++ ib ++ ir ++ ii, go_impl_built (by simp) ?_, ⟨own_Checker.2 ⟨[], _, [], _, [2], _, ib, _, ir, _, ii, _, rfl, rfl, ⟨rfl, rfl⟩, ⟨rfl, rfl⟩, oa.own, ob.own, or_.own, oi.own⟩, ?_, ?_⟩, ?_⟩
  · have k2 := fun ks => congrFun k1 ks
    unfold F2 at k2
    have gg : Gud (σ.set 0 (ckR S x1 n va vb vr vi)) := Gud.set hg _ _ _ (by simp [PV.bels, PV.bel]; omega)
    unfold Gud at gg
    have q0 : ∀ r, (σ.set 0 r)[0]? = some r := fun r => List.getElem?_set_self (by omega)
    have e2 : ∀ ks, rE fns fa_impl_built 0 (.code lo_impl_built_2 :: .inBlock 0 :: ks) [(27, i64 (n : Nat)), (26, i64 (n : Nat)), (15, .ptr 1 0 0 0), (14, .ptr 0 0 0 0), (6, f6), (5, f5), (4, f4), (3, f3), (1, i64 (S : Nat))] σ =
        rE fns fa_impl_built 0 ks [(15, .ptr 1 0 0 0), (14, .ptr 0 0 0 0)] σ := by
      intro ks
      rw [l_impl_built_2]
      simp [lb_impl_built_2]
    simp [-callN] at k2 e2 r0 r1 gg q0
    simp [-callN, ac_impl_built, k2, e2, r0, r1, gg, q0, show 2 < σ.length by omega, show 3 < σ.length by omega, show 4 < σ.length by omega, show 5 < σ.length by omega, setCells]
    done
  · have nb := ob.nd; have nr := or_.nd; have ni := oi.nd
    simp only [List.nil_append, List.append_assoc, List.nodup_append, List.mem_append, List.mem_singleton, List.nodup_cons, List.nodup_nil]
    refine ⟨⟨by simp, trivial⟩, ⟨nb, ⟨nr, ni, fun a ha b hb e => dri a ha (e ▸ hb)⟩, fun a ha b hb e => ?_⟩, fun a ha b hb e => ?_⟩
    · subst e; rcases hb with hb | hb; exact dbr a ha hb; exact dbi a ha hb
    · subst ha; subst e; rcases hb with hb | hb | hb; have := db _ hb; omega; have := dr _ hb; omega; have := di _ hb; omega
  · intro i hi
    simp only [List.nil_append, List.mem_append, List.mem_singleton] at hi
    rcases hi with ((hi | hi) | hi) | hi
    · subst hi; exact oa.lt 2 (by simp)
    · exact ob.lt i hi
    · exact or_.lt i hi
    · exact oi.lt i hi
  · exact (hn.set 0 (by simp [AObj.nl, PV.nls, PV.nl])).good (Gud.set hg _ _ _ (by simp [PV.bels, PV.bel]; omega))
end Go.Proofs.Ytoliadfdklfmfaa
