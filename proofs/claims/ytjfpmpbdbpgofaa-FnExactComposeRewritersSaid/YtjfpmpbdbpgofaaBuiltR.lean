/- Rewriters that are built out of functions: the program's builtRewriter. -/
import Derived.Test.YtjfpmpbdbpgofaaExact
import Derived.Test.YtjfpmpbdbpgofaaCmpP
set_option linter.unusedVariables false
set_option linter.unusedSimpArgs false
set_option maxRecDepth 100000
namespace Go.Proofs.Ytjfpmpbdbpgofaa
open Aw
/-! ### builtRewriter -/
theorem nl_push (x : GOutPush) : (Enc.pv x).nl = true := by simp [PV.nl, PV.nls]
theorem nl_move (x : GOutMove) : (Enc.pv x).nl = true := by simp [PV.nl, PV.nls]
noncomputable def F0 (f5 : PV) (S : Nat) (id : Nat) (a20 a16 : PV) (k : Nat) (s : List AObj × Nat) (ks : List KI) (a33 a27 a26 a19 a18 a17 a15 a14 a6 a4 a1 : PV) : Option (PV × List AObj) :=
  rE fns fa_impl_builtRewriter 0 (.code lo_impl_builtRewriter_0 :: .inBlock 4 :: ks) [(37, i64 (k : Nat)), (36, i64 ((S + 1 : Nat) : Int)), (31, a33), (25, a27), (24, a26), (19, .own id s.2 0 k), (18, a20), (17, a19), (16, a18), (15, a17), (14, a16), (13, a15), (12, a14), (5, a6), (4, f5), (3, a4), (1, a1)] s.1
set_option maxHeartbeats 8000000 in
theorem ro_builtRewriter_0 (a16 a20 : PV) (B : Nat → GOutMove) (f5 : PV) (S : Nat) (hS : S ≤ 100000) (hB : ∀ σ m, m ≤ S → callV fns (ev fns) f5 [a16, a20, i64 (m : Nat)] σ = some ((B m).v, σ)) {σ0 : List AObj} (id : Nat) (k : Nat) (s : List AObj × Nat) (h : k < S + 1) (hi : FlI σ0 id B k s) :
    ∃ s' : List AObj × Nat, F0 f5 S id a20 a16 k s = F0 f5 S id a20 a16 (k + 1) s' ∧ FlI σ0 id B (k + 1) s' := by
  obtain ⟨σ, v⟩ := s
  refine ⟨_, ?_, hi.push (nl_move _)⟩
  have h1 := hi.l.at
  have hv : v < 999999 := by have := hi.v; simp only at this; omega
  have hw := wrap_i64 (n := k + 1) (by omega)
  have hb := hB σ k (by omega)
  have b1 : (k + 1) * 24 ≤ 140737488355328 := by omega
  have hlt : (k : Int) < S + 1 := by omega
  funext ks a33 a27 a26 a19 a18 a17 a15 a14 a6 a4 a1
  unfold F0
  rw [l_impl_builtRewriter_0]
  simp [-callN] at h1 hb
  simp [-callN, lb_impl_builtRewriter_0, h, h1, hb, hw, b1, hlt, hv]
theorem lo_builtRewriter_0 (a16 a20 : PV) (B : Nat → GOutMove) (f5 : PV) (S : Nat) (hS : S ≤ 100000) (hB : ∀ σ m, m ≤ S → callV fns (ev fns) f5 [a16, a20, i64 (m : Nat)] σ = some ((B m).v, σ)) {σ : List AObj} (g : Good σ) (n : Nl [] σ) :
    ∃ s' : List AObj × Nat, (∀ ks a33 a27 a26 a19 a18 a17 a15 a14 a6 a4 a1, rE fns fa_impl_builtRewriter 0 (.code lo_impl_builtRewriter_0 :: .inBlock 4 :: ks) [(37, i64 0), (36, i64 (S + 1)), (31, a33), (25, a27), (24, a26), (19, .own σ.length 0 0 0), (18, a20), (17, a19), (16, a18), (15, a17), (14, a16), (13, a15), (12, a14), (5, a6), (4, f5), (3, a4), (1, a1)] (σ ++ [.row 2 [] 0]) =
      rE fns fa_impl_builtRewriter 0 ks [(31, a33), (25, a27), (24, a26), (19, .own σ.length s'.2 0 (S + 1)), (18, a20), (17, a19), (16, a18), (15, a17), (14, a16), (13, a15), (12, a14), (5, a6), (4, f5), (3, a4), (1, a1)] s'.1) ∧ FlI σ σ.length B (S + 1) s' := by
  obtain ⟨s1, k1, h1⟩ := loop_known (F := F0 f5 S σ.length a20 a16) (n := S + 1) (I := FlI σ σ.length B) (fun m s hm hi => ro_builtRewriter_0 a16 a20 B f5 S hS hB σ.length m s hm hi) (FlI.start B g n)
  refine ⟨s1, fun ks a33 a27 a26 a19 a18 a17 a15 a14 a6 a4 a1 => ?_, h1⟩
  have e := congrFun (congrFun (congrFun (congrFun (congrFun (congrFun (congrFun (congrFun (congrFun (congrFun (congrFun (congrFun k1 ks) a33) a27) a26) a19) a18) a17) a15) a14) a6) a4) a1
  unfold F0 at e
  have e2 : rE fns fa_impl_builtRewriter 0 (.code lo_impl_builtRewriter_0 :: .inBlock 4 :: ks) [(37, i64 ((S + 1 : Nat) : Int)), (36, i64 ((S + 1 : Nat) : Int)), (31, a33), (25, a27), (24, a26), (19, .own σ.length s1.2 0 (S + 1)), (18, a20), (17, a19), (16, a18), (15, a17), (14, a16), (13, a15), (12, a14), (5, a6), (4, f5), (3, a4), (1, a1)] s1.1 =
      rE fns fa_impl_builtRewriter 0 ks [(31, a33), (25, a27), (24, a26), (19, .own σ.length s1.2 0 (S + 1)), (18, a20), (17, a19), (16, a18), (15, a17), (14, a16), (13, a15), (12, a14), (5, a6), (4, f5), (3, a4), (1, a1)] s1.1 := by
    rw [l_impl_builtRewriter_0]
    simp [lb_impl_builtRewriter_0]
  rw [e2] at e
  simpa using e
abbrev S3 := List AObj × Nat × Nat × Nat
/-- The three lists of one state of a checker that is built, behind a state: the calls, the returns, the inner moves. -/
structure RbI (σ0 : List AObj) (C : Nat → GOutPush) (B : Nat → Nat → GOutMove) (I : Nat → GOutMove) (S : Nat) (k : Nat) (s : S3) : Prop where
  p : Lst s.1 σ0.length s.2.1 (((List.range k).map C).map Enc.pv) [σ0.length] ((List.range k).map C)
  q : ∃ es ids, Lst s.1 (σ0.length + 1) s.2.2.1 es ids ((List.range k).map fun k => (List.range (S + 1)).map (B k)) ∧ ∀ i ∈ ids, i = σ0.length + 1 ∨ σ0.length + 3 ≤ i
  w : Lst s.1 (σ0.length + 2) s.2.2.2 (((List.range k).map I).map Enc.pv) [σ0.length + 2] ((List.range k).map I)
  e : Ext σ0 s.1
  g : Good s.1
  n : Nl [] s.1
  v : s.2.1 ≤ k ∧ s.2.2.1 ≤ k ∧ s.2.2.2 ≤ k
noncomputable def F1 (f4 f5 f6 : PV) (S n0 : Nat) (a16 : PV) (k : Nat) (s : S3) (ks : List KI) (a27 a26 a14 : PV) : Option (PV × List AObj) :=
  rE fns fa_impl_builtRewriter 0 (.code lo_impl_builtRewriter_1 :: .inBlock 2 :: ks) [(31, i64 (k : Nat)), (25, a27), (24, a26), (17, .own (n0 + 2) s.2.2.2 0 k), (16, .own (n0 + 1) s.2.2.1 0 k), (15, .own n0 s.2.1 0 k), (14, a16), (13, .ptr 1 0 0 0), (12, a14), (5, f6), (4, f5), (3, f4), (1, i64 (S : Nat))] s.1
set_option maxHeartbeats 16000000 in
theorem ro_builtRewriter_1 (a16 : PV) (C : Nat → GOutPush) (B : Nat → Nat → GOutMove) (I : Nat → GOutMove) (f4 f5 f6 : PV) (S : Nat) (hS : S ≤ 100000)
    (hC : ∀ σ k, k < 2 → callV fns (ev fns) f4 [a16, i64 (k : Nat)] σ = some ((C k).v, σ)) (hB : ∀ σ k m, k < 2 → m ≤ S → callV fns (ev fns) f5 [a16, i64 (k : Nat), i64 (m : Nat)] σ = some ((B k m).v, σ)) (hI : ∀ σ k, k < 2 → callV fns (ev fns) f6 [a16, i64 (k : Nat)] σ = some ((I k).v, σ))
    {σ0 : List AObj} {x0 x1 : PV} {i2 v2 n2 i3 v3 n3 i4 v4 n4 : Nat} (hc : σ0[1]? = some (.row 5 [.agg [x0, x1, .own i2 v2 0 n2, .own i3 v3 0 n3, .own i4 v4 0 n4]] 0)) (k : Nat) (s : S3) (h : k < 2) (hi : RbI σ0 C B I S k s) :
    ∃ s' : S3, F1 f4 f5 f6 S σ0.length a16 k s = F1 f4 f5 f6 S σ0.length a16 (k + 1) s' ∧ RbI σ0 C B I S (k + 1) s' := by
  obtain ⟨σ, vp, vq, vw⟩ := s
  obtain ⟨hp, ⟨es, ids, hq, hqi⟩, hw, he, hg, hn, hv⟩ := hi
  simp only at hp hq hw he hg hn hv
  have hlen := he.len
  have hc1 := he.get hc
  have hpl := hp.lt σ0.length (by simp)
  have hql := hq.lt _ hq.mem
  have hwl := hw.lt (σ0.length + 2) (by simp)
  obtain ⟨s1, k1, hf⟩ := lo_builtRewriter_0 a16 (i64 (k : Nat)) (B k) f5 S hS (fun σ m hm => hB σ k m h hm) hg hn
  obtain ⟨τ, vl⟩ := s1
  have hl := hf.l.own (by simp; omega)
  have hfe := hf.e
  have hfg := hf.g
  have hfn := hf.n
  simp only [List.length_map, List.length_range] at hl hfe hfg hfn
  have hlt := hfe.len
  -- the appends
  have p1 := (hp.ext hfe)
  have p2 := p1.push (own_flatE τ (C k)) (by simp)
  have K1 := Keep.set τ σ0.length (.row (Enc.sz GOutPush) (((List.range k).map C).map Enc.pv ++ [Enc.pv (C k)]) (vp + 1))
  have q1 := (hq.ext hfe).keep K1 (fun i hi hj => by simp at hj; have := hqi i hi; omega)
  have l1 := K1.own hl (fun i hi hj => by simp at hi hj; omega)
  have q2 := q1.push l1 (fun i hi hj => by simp at hj; have := hq.lt i hi; omega)
  have g1 : Good (τ.set σ0.length (.row (Enc.sz GOutPush) (((List.range k).map C).map Enc.pv ++ [Enc.pv (C k)]) (vp + 1))) :=
    Good.set hfg _ _ _ (by rw [bels_append, bels_map]; simp only [PV.bels, Bool.and_true, Bool.true_and]; exact (own_flatE τ (C k)).bel)
  have n1 : Nl [] (τ.set σ0.length (.row (Enc.sz GOutPush) (((List.range k).map C).map Enc.pv ++ [Enc.pv (C k)]) (vp + 1))) :=
    hfn.set _ (row_nl (nls_append (hfn.at (by simp) p1.at) (by simp only [PV.nls, Bool.and_true]; exact nl_push _)))
  have hat2 := q1.at
  generalize hσ1 : τ.set σ0.length (.row (Enc.sz GOutPush) (((List.range k).map C).map Enc.pv ++ [Enc.pv (C k)]) (vp + 1)) = σ1 at *
  have K2 := Keep.set σ1 (σ0.length + 1) (.row (Enc.sz (List GOutMove)) (es ++ [.own σ.length vl 0 (S + 1)]) (vq + 1))
  have w1 := ((hw.ext hfe).keep K1 (fun i hi hj => by simp at hi hj; omega)).keep K2 (fun i hi hj => by simp at hi hj; omega)
  have w2 := w1.push (own_flatE _ (I k)) (by simp)
  have p3 := p2.keep K2 (fun i hi hj => by simp at hi hj; omega)
  have g2 : Good (σ1.set (σ0.length + 1) (.row (Enc.sz (List GOutMove)) (es ++ [.own σ.length vl 0 (S + 1)]) (vq + 1))) :=
    Good.set g1 _ _ _ (by rw [bels_append, Bool.and_eq_true]; exact ⟨Good.at g1 hat2, by simp only [PV.bels, Bool.and_true]; exact l1.bel⟩)
  have n2 : Nl [] (σ1.set (σ0.length + 1) (.row (Enc.sz (List GOutMove)) (es ++ [.own σ.length vl 0 (S + 1)]) (vq + 1))) :=
    n1.set _ (row_nl (nls_append (n1.at (by simp) hat2) (by simp [PV.nls, PV.nl])))
  have hat3 := w1.at
  generalize hσ2 : σ1.set (σ0.length + 1) (.row (Enc.sz (List GOutMove)) (es ++ [.own σ.length vl 0 (S + 1)]) (vq + 1)) = σ2 at *
  have K3 := Keep.set σ2 (σ0.length + 2) (.row (Enc.sz GOutMove) (((List.range k).map I).map Enc.pv ++ [Enc.pv (I k)]) (vw + 1))
  have p4 := p3.keep K3 (fun i hi hj => by simp at hi hj; omega)
  have q3 := q2.keep K3 (fun i hi hj => by simp at hi hj; rcases hi with hi | hi; have := hqi i hi; omega; omega)
  refine ⟨(σ2.set (σ0.length + 2) (.row (Enc.sz GOutMove) (((List.range k).map I).map Enc.pv ++ [Enc.pv (I k)]) (vw + 1)), vp + 1, vq + 1, vw + 1), ?_, ⟨?_, ⟨_, _, by rw [map_succ]; exact q3, ?_⟩, ?_, ?_, ?_, ?_, by simp only; omega⟩⟩
  · funext ks a27 a26 a14
    unfold F1
    have h4 := fun σ => hC σ k h
    have h6 := fun σ => hI σ k h
    have hwk := wrap_i64 (n := k + 1) (by omega)
    have hwS := wrap_i64 (n := S + 1) (by omega)
    have hk2 : (k : Int) < 2 := by omega
    have lq := hq.len
    simp only [List.length_map, List.length_range] at lq
    have v3 : vp < 999999 ∧ vq < 999999 ∧ vw < 999999 := by omega
    have b1 : (k + 1) * 32 ≤ 140737488355328 ∧ (k + 1) * 24 ≤ 140737488355328 := by omega
    have a1 := p1.at
    subst lq
    rw [l_impl_builtRewriter_1]
    simp [-callN] at h4 h6 hc1 k1 a1 hat2 hat3 hσ1 hσ2
    simp [-callN, lb_impl_builtRewriter_1, h, hk2, h4, h6, hc1, k1, a1, hat2, hat3, hσ1, hσ2, hwk, hwS, b1, v3]
    done
  · simp only; rw [map_succ]; simpa using p4
  · intro i hi
    rcases List.mem_append.1 hi with hi | hi
    · exact hqi i hi
    · simp at hi; omega
  · simp only; rw [map_succ]; simpa using w2
  · simp only; rw [← hσ2, ← hσ1]; exact ((Ext.trans he hfe).set (by omega) _ |>.set (by omega) _).set (by omega) _
  · exact Good.set g2 _ _ _ (by rw [bels_append, bels_map]; simp only [PV.bels, Bool.and_true, Bool.true_and]; exact (own_flatE σ2 (I k)).bel)
  · exact n2.set _ (row_nl (nls_append (n2.at (by simp) hat3) (by simp only [PV.nls, Bool.and_true]; exact nl_move _)))
theorem RbI.start {σ : List AObj} (C : Nat → GOutPush) (B : Nat → Nat → GOutMove) (I : Nat → GOutMove) (S : Nat) (g : Good σ) (n : Nl [] σ) : RbI σ C B I S 0 (σ ++ [.row 3 [] 0] ++ [.row 1 [] 0] ++ [.row 2 [] 0], 0, 0, 0) := by
  have l1 := Lst.new (α := GOutPush) σ 0
  have l2 := Lst.new (α := List GOutMove) (σ ++ [.row 3 [] 0]) 0
  have l3 := Lst.new (α := GOutMove) (σ ++ [.row 3 [] 0] ++ [.row 1 [] 0]) 0
  have e1 := Ext.snoc (σ ++ [.row 3 [] 0]) (.row 1 [] 0)
  have e2 := Ext.snoc (σ ++ [.row 3 [] 0] ++ [.row 1 [] 0]) (.row 2 [] 0)
  have g1 : Good (σ ++ [.row 3 [] 0]) := Good.snoc g (by simp [PV.bels])
  have g2 : Good (σ ++ [.row 3 [] 0] ++ [.row 1 [] 0]) := Good.snoc g1 (by simp [PV.bels])
  have n1 := n.app (τ := [.row 3 [] 0]) (by simp [AObj.nl, PV.nls])
  have n2 := n1.app (τ := [.row 1 [] 0]) (by simp [AObj.nl, PV.nls])
  refine ⟨?_, ⟨[], [σ.length + 1], ?_, by simp⟩, ?_, ⟨[.row 3 [] 0, .row 1 [] 0, .row 2 [] 0], by simp⟩, Good.snoc g2 (by simp [PV.bels]), n2.app (by simp [AObj.nl, PV.nls]), by simp⟩
  · simpa using (l1.ext e1).ext e2
  · have := l2.ext e2
    simpa using this
  · simpa using l3
theorem lo_builtRewriter_1 (a16 : PV) (C : Nat → GOutPush) (B : Nat → Nat → GOutMove) (I : Nat → GOutMove) (f4 f5 f6 : PV) (S : Nat) (hS : S ≤ 100000)
    (hC : ∀ σ k, k < 2 → callV fns (ev fns) f4 [a16, i64 (k : Nat)] σ = some ((C k).v, σ)) (hB : ∀ σ k m, k < 2 → m ≤ S → callV fns (ev fns) f5 [a16, i64 (k : Nat), i64 (m : Nat)] σ = some ((B k m).v, σ)) (hI : ∀ σ k, k < 2 → callV fns (ev fns) f6 [a16, i64 (k : Nat)] σ = some ((I k).v, σ))
    {σ : List AObj} {x0 x1 : PV} {i2 v2 n2 i3 v3 n3 i4 v4 n4 : Nat} (hc : σ[1]? = some (.row 5 [.agg [x0, x1, .own i2 v2 0 n2, .own i3 v3 0 n3, .own i4 v4 0 n4]] 0)) (g : Good σ) (n : Nl [] σ) :
    ∃ s' : S3, (∀ ks a27 a26 a14, rE fns fa_impl_builtRewriter 0 (.code lo_impl_builtRewriter_1 :: .inBlock 2 :: ks) [(31, i64 0), (25, a27), (24, a26), (17, .own (σ.length + 2) 0 0 0), (16, .own (σ.length + 1) 0 0 0), (15, .own σ.length 0 0 0), (14, a16), (13, .ptr 1 0 0 0), (12, a14), (5, f6), (4, f5), (3, f4), (1, i64 (S : Nat))] (σ ++ [.row 3 [] 0] ++ [.row 1 [] 0] ++ [.row 2 [] 0]) =
      rE fns fa_impl_builtRewriter 0 ks [(25, a27), (24, a26), (17, .own (σ.length + 2) s'.2.2.2 0 2), (16, .own (σ.length + 1) s'.2.2.1 0 2), (15, .own σ.length s'.2.1 0 2), (13, .ptr 1 0 0 0), (12, a14), (5, f6), (4, f5), (3, f4), (1, i64 (S : Nat))] s'.1) ∧ RbI σ C B I S 2 s' := by
  obtain ⟨s1, k1, h1⟩ := loop_known (F := F1 f4 f5 f6 S σ.length a16) (n := 2) (I := RbI σ C B I S) (fun m s hm hi => ro_builtRewriter_1 a16 C B I f4 f5 f6 S hS hC hB hI hc m s hm hi) (RbI.start C B I S g n)
  refine ⟨s1, fun ks a27 a26 a14 => ?_, h1⟩
  have e := congrFun (congrFun (congrFun (congrFun k1 ks) a27) a26) a14
  unfold F1 at e
  have e2 : rE fns fa_impl_builtRewriter 0 (.code lo_impl_builtRewriter_1 :: .inBlock 2 :: ks) [(31, i64 ((2 : Nat) : Int)), (25, a27), (24, a26), (17, .own (σ.length + 2) s1.2.2.2 0 2), (16, .own (σ.length + 1) s1.2.2.1 0 2), (15, .own σ.length s1.2.1 0 2), (14, a16), (13, .ptr 1 0 0 0), (12, a14), (5, f6), (4, f5), (3, f4), (1, i64 (S : Nat))] s1.1 =
      rE fns fa_impl_builtRewriter 0 ks [(25, a27), (24, a26), (17, .own (σ.length + 2) s1.2.2.2 0 2), (16, .own (σ.length + 1) s1.2.2.1 0 2), (15, .own σ.length s1.2.1 0 2), (13, .ptr 1 0 0 0), (12, a14), (5, f6), (4, f5), (3, f4), (1, i64 (S : Nat))] s1.1 := by
    rw [l_impl_builtRewriter_1]
    simp [lb_impl_builtRewriter_1]
  rw [e2] at e
  exact e
abbrev S4 := List AObj × Nat × Nat × Nat
@[simp] abbrev zRwB : PV := .agg [i64 0, i64 0, .val (.slice none 0 0), .val (.slice none 0 0), .val (.slice none 0 0)]
@[simp] abbrev rwR (x0 x1 : Int) (k vb vr vi : Nat) : AObj := .row 5 [.agg [i64 x0, i64 x1, .own 2 vb 0 k, .own 3 vr 0 k, .own 4 vi 0 k]] 0
/-- A rewriter under way. -/
structure RtI (C : Nat → Nat → GOutPush) (B : Nat → Nat → Nat → GOutMove) (I : Nat → Nat → GOutMove) (S : Nat) (x0 x1 : Int) (k : Nat) (s : S4) : Prop where
  r0 : s.1[0]? = some (.row 5 [zRwB] 0)
  r1 : s.1[1]? = some (rwR x0 x1 k s.2.1 s.2.2.1 s.2.2.2)
  ex : ∃ eb ib er ir ei ii, Lst s.1 2 s.2.1 eb ib ((List.range k).map fun s => (List.range 2).map (C s)) ∧ Lst s.1 3 s.2.2.1 er ir ((List.range k).map fun s => (List.range 2).map fun k => (List.range (S + 1)).map (B s k)) ∧
    Lst s.1 4 s.2.2.2 ei ii ((List.range k).map fun s => (List.range 2).map (I s)) ∧ (∀ i ∈ ib, i = 2 ∨ 5 ≤ i) ∧ (∀ i ∈ ir, i = 3 ∨ 5 ≤ i) ∧ (∀ i ∈ ii, i = 4 ∨ 5 ≤ i) ∧ (∀ i ∈ ib, i ∉ ir) ∧ (∀ i ∈ ib, i ∉ ii) ∧ (∀ i ∈ ir, i ∉ ii)
  l : 5 ≤ s.1.length
  g : Good s.1
  n : Nl [] s.1
  v : s.2.1 ≤ k ∧ s.2.2.1 ≤ k ∧ s.2.2.2 ≤ k
noncomputable def F2 (f4 f5 f6 : PV) (n S : Nat) (k : Nat) (s : S4) (ks : List KI) : Option (PV × List AObj) :=
  rE fns fa_impl_builtRewriter 0 (.code lo_impl_builtRewriter_2 :: .inBlock 0 :: ks) [(25, i64 (k : Nat)), (24, i64 (n : Nat)), (13, .ptr 1 0 0 0), (12, .ptr 0 0 0 0), (5, f6), (4, f5), (3, f4), (1, i64 (S : Nat))] s.1
set_option maxHeartbeats 32000000 in
theorem ro_builtRewriter_2 (C : Nat → Nat → GOutPush) (B : Nat → Nat → Nat → GOutMove) (I : Nat → Nat → GOutMove) (f4 f5 f6 : PV) (n S : Nat) (hS : S ≤ 100000) (hN : n ≤ 100000)
    (hC : ∀ σ s k, s < n → k < 2 → callV fns (ev fns) f4 [i64 (s : Nat), i64 (k : Nat)] σ = some ((C s k).v, σ))
    (hB : ∀ σ s k m, s < n → k < 2 → m ≤ S → callV fns (ev fns) f5 [i64 (s : Nat), i64 (k : Nat), i64 (m : Nat)] σ = some ((B s k m).v, σ)) (hI : ∀ σ s k, s < n → k < 2 → callV fns (ev fns) f6 [i64 (s : Nat), i64 (k : Nat)] σ = some ((I s k).v, σ))
    (x0 x1 : Int) (k : Nat) (s : S4) (h : k < n) (hi : RtI C B I S x0 x1 k s) : ∃ s' : S4, F2 f4 f5 f6 n S k s = F2 f4 f5 f6 n S (k + 1) s' ∧ RtI C B I S x0 x1 (k + 1) s' := by
  obtain ⟨σ, vb, vr, vi⟩ := s
  obtain ⟨r0, r1, ⟨eb, ib, er, ir, ei, ii, hb, hr, hii, db, dr, di, dbr, dbi, dri⟩, hl6, hg, hn, hvv⟩ := hi
  simp only at r0 r1 hb hr hii hl6 hg hn hvv
  obtain ⟨s1, k1, w⟩ := lo_builtRewriter_1 (i64 (k : Nat)) (C k) (B k) (I k) f4 f5 f6 S hS (fun σ j hj => hC σ k j h hj) (fun σ j m hj hm => hB σ k j m h hj hm) (fun σ j hj => hI σ k j h hj) r1 hg hn
  obtain ⟨τ, vp, vq, vw⟩ := s1
  obtain ⟨wp, ⟨eq, iq, wq, dq⟩, ww, we, wg, wn, wv⟩ := w
  simp only at wp wq ww we wg wn
  have hlen := we.len
  have op := wp.own (by simp)
  have oq := wq.own (by simp)
  have ow := ww.own (by simp)
  simp only [List.length_map, List.length_range] at op oq ow
  have t0 := we.get r0
  have t1 := we.get r1
  have iqn : ∀ i ∈ iq, σ.length + 1 ≤ i := fun i hi => by have := dq i hi; omega
  have ibl : ∀ i ∈ ib, i < σ.length := hb.lt
  have irl : ∀ i ∈ ir, i < σ.length := hr.lt
  have iil : ∀ i ∈ ii, i < σ.length := hii.lt
  -- the appends
  have b1 := hb.ext we
  have rr1 := hr.ext we
  have i1 := hii.ext we
  have bt1 := b1.at
  have b2 := b1.push op (fun i hi hj => by simp at hj; have := ibl i hi; omega)
  have K2 := Keep.set τ 2 (.row (Enc.sz (List GOutPush)) (eb ++ [.own σ.length vp 0 2]) (vb + 1))
  have g2 : Good (τ.set 2 (.row (Enc.sz (List GOutPush)) (eb ++ [.own σ.length vp 0 2]) (vb + 1))) :=
    Good.set wg _ _ _ (by rw [bels_append, Bool.and_eq_true]; exact ⟨Good.at wg bt1, by simp only [PV.bels, Bool.and_true]; exact op.bel⟩)
  have n2 : Nl [] (τ.set 2 (.row (Enc.sz (List GOutPush)) (eb ++ [.own σ.length vp 0 2]) (vb + 1))) :=
    wn.set _ (row_nl (nls_append (wn.at (by simp) bt1) (by simp [PV.nls, PV.nl])))
  have rr2 := rr1.keep K2 (fun i hi hj => by simp at hj; have := dr i hi; omega)
  have i2 := i1.keep K2 (fun i hi hj => by simp at hj; have := di i hi; omega)
  have oq2 := K2.own oq (fun i hi hj => by simp at hj; have := iqn i hi; omega)
  have ow2 := K2.own ow (fun i hi hj => by simp at hi hj; omega)
  have t02 := K2.get (by simp) t0
  have t12 := K2.get (by simp) t1
  generalize hσ2 : τ.set 2 (.row (Enc.sz (List GOutPush)) (eb ++ [.own σ.length vp 0 2]) (vb + 1)) = σ2 at *
  have rt2 := rr2.at
  have rr3 := rr2.push oq2 (fun i hi hj => by have := irl i hi; have := iqn i hj; omega)
  have K3 := Keep.set σ2 3 (.row (Enc.sz (List (List GOutMove))) (er ++ [.own (σ.length + 1) vq 0 2]) (vr + 1))
  have g3 : Good (σ2.set 3 (.row (Enc.sz (List (List GOutMove))) (er ++ [.own (σ.length + 1) vq 0 2]) (vr + 1))) :=
    Good.set g2 _ _ _ (by rw [bels_append, Bool.and_eq_true]; exact ⟨Good.at g2 rt2, by simp only [PV.bels, Bool.and_true]; exact oq2.bel⟩)
  have n3 : Nl [] (σ2.set 3 (.row (Enc.sz (List (List GOutMove))) (er ++ [.own (σ.length + 1) vq 0 2]) (vr + 1))) :=
    n2.set _ (row_nl (nls_append (n2.at (by simp) rt2) (by simp [PV.nls, PV.nl])))
  have b3 := b2.keep K3 (fun i hi hj => by simp at hj hi; rcases hi with hi | hi; have := db i hi; omega; omega)
  have i3 := i2.keep K3 (fun i hi hj => by simp at hj; have := di i hi; omega)
  have ow3 := K3.own ow2 (fun i hi hj => by simp at hi hj; omega)
  have t03 := K3.get (by simp) t02
  have t13 := K3.get (by simp) t12
  generalize hσ3 : σ2.set 3 (.row (Enc.sz (List (List GOutMove))) (er ++ [.own (σ.length + 1) vq 0 2]) (vr + 1)) = σ3 at *
  have it3 := i3.at
  have i4 := i3.push ow3 (fun i hi hj => by simp at hj; have := iil i hi; omega)
  have K4 := Keep.set σ3 4 (.row (Enc.sz (List GOutMove)) (ei ++ [.own (σ.length + 2) vw 0 2]) (vi + 1))
  have g4 : Good (σ3.set 4 (.row (Enc.sz (List GOutMove)) (ei ++ [.own (σ.length + 2) vw 0 2]) (vi + 1))) :=
    Good.set g3 _ _ _ (by rw [bels_append, Bool.and_eq_true]; exact ⟨Good.at g3 it3, by simp only [PV.bels, Bool.and_true]; exact ow3.bel⟩)
  have n4 : Nl [] (σ3.set 4 (.row (Enc.sz (List GOutMove)) (ei ++ [.own (σ.length + 2) vw 0 2]) (vi + 1))) :=
    n3.set _ (row_nl (nls_append (n3.at (by simp) it3) (by simp [PV.nls, PV.nl])))
  have b4 := b3.keep K4 (fun i hi hj => by simp at hj hi; rcases hi with hi | hi; have := db i hi; omega; omega)
  have rr4 := rr3.keep K4 (fun i hi hj => by simp at hj; rcases List.mem_append.1 hi with hi | hi; have := dr i hi; omega; have := iqn i hi; omega)
  have t04 := K4.get (by simp) t03
  have t14 := K4.get (by simp) t13
  generalize hσ4 : σ3.set 4 (.row (Enc.sz (List GOutMove)) (ei ++ [.own (σ.length + 2) vw 0 2]) (vi + 1)) = σ4 at *
  have hl4 : σ4.length = τ.length := by rw [K4.1, K3.1, K2.1]
  have K5 := Keep.set σ4 1 (rwR x0 x1 (k + 1) (vb + 1) (vr + 1) (vi + 1))
  refine ⟨(σ4.set 1 (rwR x0 x1 (k + 1) (vb + 1) (vr + 1) (vi + 1)), vb + 1, vr + 1, vi + 1), ?_, ⟨?_, ?_, ⟨eb ++ [.own σ.length vp 0 2], ib ++ [σ.length], er ++ [.own (σ.length + 1) vq 0 2], ir ++ iq, ei ++ [.own (σ.length + 2) vw 0 2], ii ++ [σ.length + 2], ?_, ?_, ?_, ?_, ?_, ?_, ?_, ?_, ?_⟩, ?_, ?_, ?_, by simp only; omega⟩⟩
  · funext ks
    unfold F2
    have hwk := wrap_i64 (n := k + 1) (by omega)
    have hkn : (k : Int) < n := by omega
    have lb := hb.len
    have lr := hr.len
    have li := hii.len
    simp only [List.length_map, List.length_range] at lb lr li
    have v3 : vb < 999999 ∧ vr < 999999 ∧ vi < 999999 := by omega
    have bb : (k + 1) * 24 ≤ 140737488355328 ∧ k + 1 ≤ 140737488355328 := by omega
    have q1 : ∀ r, (σ4.set 1 r)[1]? = some r := fun r => List.getElem?_set_self (by omega)
    rw [l_impl_builtRewriter_2]
    simp [-callN] at r1 t1 t12 t13 t14 k1 bt1 rt2 it3 hσ2 hσ3 hσ4 q1
    simp [-callN, lb_impl_builtRewriter_2, h, hkn, r1, t1, t12, t13, t14, k1, bt1, rt2, it3, hσ2, hσ3, hσ4, q1, lb, lr, li, hwk, bb, v3, setCells]
    done
  · exact K5.get (by simp) t04
  · exact List.getElem?_set_self (by omega)
  · have := b4.keep K5 (fun i hi hj => by simp at hj hi; rcases hi with hi | hi; have := db i hi; omega; omega)
    simp only; rw [map_succ]; exact this
  · have := rr4.keep K5 (fun i hi hj => by simp at hj; rcases List.mem_append.1 hi with hi | hi; have := dr i hi; omega; have := iqn i hi; omega)
    simp only; rw [map_succ]; exact this
  · have := i4.keep K5 (fun i hi hj => by simp at hj hi; rcases hi with hi | hi; have := di i hi; omega; omega)
    simp only; rw [map_succ]; exact this
  · intro i hi; rcases List.mem_append.1 hi with hi | hi; exact db i hi; simp at hi; omega
  · intro i hi; rcases List.mem_append.1 hi with hi | hi; exact dr i hi; have := iqn i hi; omega
  · intro i hi; rcases List.mem_append.1 hi with hi | hi; exact di i hi; simp at hi; omega
  · intro i hi hj
    rcases List.mem_append.1 hi with hi | hi <;> rcases List.mem_append.1 hj with hj | hj
    · exact dbr i hi hj
    · have := ibl i hi; have := iqn i hj; omega
    · simp at hi; have := irl i hj; omega
    · simp at hi; have := iqn i hj; omega
  · intro i hi hj
    rcases List.mem_append.1 hi with hi | hi <;> rcases List.mem_append.1 hj with hj | hj
    · exact dbi i hi hj
    · simp at hj; have := ibl i hi; omega
    · simp at hi; have := iil i hj; omega
    · simp at hi hj; omega
  · intro i hi hj
    rcases List.mem_append.1 hi with hi | hi <;> rcases List.mem_append.1 hj with hj | hj
    · exact dri i hi hj
    · simp at hj; have := irl i hi; omega
    · have := iqn i hi; have := iil i hj; omega
    · simp at hj; have := dq i hi; omega
  · simp only [List.length_set]; omega
  · exact Good.set g4 _ _ _ (by simp [PV.bels, PV.bel]; omega)
  · exact n4.set _ (by simp [AObj.nl, PV.nls, PV.nl])
theorem RtI.start (C : Nat → Nat → GOutPush) (B : Nat → Nat → Nat → GOutMove) (I : Nat → Nat → GOutMove) (S : Nat) (x0 x1 : Int) :
    RtI C B I S x0 x1 0 ([.row 5 [zRwB] 0, rwR x0 x1 0 0 0 0, .row 1 [] 0, .row 1 [] 0, .row 1 [] 0], 0, 0, 0) := by
  refine ⟨rfl, rfl, ⟨[], [2], [], [3], [], [4], ⟨rfl, rfl, ⟨[], rfl, trivial⟩, by simp, by simp⟩, ⟨rfl, rfl, ⟨[], rfl, trivial⟩, by simp, by simp⟩, ⟨rfl, rfl, ⟨[], rfl, trivial⟩, by simp, by simp⟩, by simp, by simp, by simp, by simp, by simp, by simp⟩, by simp, ?_, ?_, by simp⟩
  · simp [Good, objsBel, PV.bels, PV.bel]
  · refine GoodN.nlX ⟨?_, ?_⟩
    · simp [Good, objsBel, PV.bels, PV.bel]
    · simp [AObj.nl, PV.nls, PV.nl]
set_option maxHeartbeats 16000000 in
theorem ev_impl_builtRewriter (C : Nat → Nat → GOutPush) (B : Nat → Nat → Nat → GOutMove) (I : Nat → Nat → GOutMove) (f4 f5 f6 : PV) (hf : PV.bels 0 [f4, f5, f6] = true) (n S : Nat) (hS : S ≤ 100000) (hN : n ≤ 100000) (x1 : Int)
    (hC : ∀ σ s k, s < n → k < 2 → callV fns (ev fns) f4 [i64 (s : Nat), i64 (k : Nat)] σ = some ((C s k).v, σ))
    (hB : ∀ σ s k m, s < n → k < 2 → m ≤ S → callV fns (ev fns) f5 [i64 (s : Nat), i64 (k : Nat), i64 (m : Nat)] σ = some ((B s k m).v, σ)) (hI : ∀ σ s k, s < n → k < 2 → callV fns (ev fns) f6 [i64 (s : Nat), i64 (k : Nat)] σ = some ((I s k).v, σ)) :
    ∃ p τ ids, ev fns i_impl_builtRewriter [i64 (n : Nat), i64 (S : Nat), i64 x1, f4, f5, f6] [] = some (p, τ) ∧ OwnIn τ ids p (bltRw n S x1 C B I) ∧ GoodN τ := by
  obtain ⟨s1, k1, hi⟩ := loop_known (F := F2 f4 f5 f6 n S) (n := n) (I := RtI C B I S S x1) (fun k s h hi => ro_builtRewriter_2 C B I f4 f5 f6 n S hS hN hC hB hI S x1 k s h hi) (RtI.start C B I S S x1)
  obtain ⟨σ, vb, vr, vi⟩ := s1
  obtain ⟨r0, r1, ⟨eb, ib, er, ir, ei, ii, hb, hr, hii, db, dr, di, dbr, dbi, dri⟩, hl6, hg, hn, hvv⟩ := hi
  simp only at r0 r1 hb hr hii hl6 hg hn hvv
  have K := Keep.set σ 0 (rwR S x1 n vb vr vi)
  have ob := K.own (hb.own (by simp; omega)) (fun i hi hj => by simp at hj; have := db i hi; omega)
  have or_ := K.own (hr.own (by simp; omega)) (fun i hi hj => by simp at hj; have := dr i hi; omega)
  have oi := K.own (hii.own (by simp; omega)) (fun i hi hj => by simp at hj; have := di i hi; omega)
  simp only [List.length_map, List.length_range] at ob or_ oi
  refine ⟨.agg [i64 S, i64 x1, .own 2 vb 0 n, .own 3 vr 0 n, .own 4 vi 0 n], σ.set 0 (rwR S x1 n vb vr vi), [] ++ [] ++ ib ++ ir ++ ii, go_impl_builtRewriter (by simp) ?_, ⟨own_Rewriter.2 ⟨[], _, [], _, ib, _, ir, _, ii, _, rfl, rfl, ⟨rfl, rfl⟩, ⟨rfl, rfl⟩, ob.own, or_.own, oi.own⟩, ?_, ?_⟩, ?_⟩
  · have k2 := fun ks => congrFun k1 ks
    unfold F2 at k2
    have gg : Good (σ.set 0 (rwR S x1 n vb vr vi)) := Good.set hg _ _ _ (by simp [PV.bels, PV.bel]; omega)
    unfold Good at gg
    have q0 : ∀ r, (σ.set 0 r)[0]? = some r := fun r => List.getElem?_set_self (by omega)
    have e2 : ∀ ks, rE fns fa_impl_builtRewriter 0 (.code lo_impl_builtRewriter_2 :: .inBlock 0 :: ks) [(25, i64 (n : Nat)), (24, i64 (n : Nat)), (13, .ptr 1 0 0 0), (12, .ptr 0 0 0 0), (5, f6), (4, f5), (3, f4), (1, i64 (S : Nat))] σ =
        rE fns fa_impl_builtRewriter 0 ks [(13, .ptr 1 0 0 0), (12, .ptr 0 0 0 0)] σ := by
      intro ks
      rw [l_impl_builtRewriter_2]
      simp [lb_impl_builtRewriter_2]
    simp [-callN] at k2 e2 r0 r1 gg q0
    simp [-callN, ac_impl_builtRewriter, k2, e2, r0, r1, gg, q0, show 2 < σ.length by omega, show 3 < σ.length by omega, show 4 < σ.length by omega, setCells]
    done
  · have nb := ob.nd; have nr := or_.nd; have ni := oi.nd
    simp only [List.nil_append, List.append_assoc, List.nodup_append, List.mem_append]
    refine ⟨nb, ⟨nr, ni, fun a ha b hb e => dri a ha (e ▸ hb)⟩, fun a ha b hb e => ?_⟩
    subst e; rcases hb with hb | hb; exact dbr a ha hb; exact dbi a ha hb
  · intro i hi
    simp only [List.nil_append, List.mem_append] at hi
    rcases hi with (hi | hi) | hi
    · exact ob.lt i hi
    · exact or_.lt i hi
    · exact oi.lt i hi
  · exact (hn.set 0 (by simp [AObj.nl, PV.nls, PV.nl])).good (Good.set hg _ _ _ (by simp [PV.bels, PV.bel]; omega))
end Go.Proofs.Ytjfpmpbdbpgofaa
