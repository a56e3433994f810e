/- Both choices: the reference's l03Part, called twice. -/
import Derived.Test.YtlolldjkahkbfaaEiT
import Derived.Test.YtlolldjkahkbfaaEiF
set_option linter.unusedVariables false
set_option linter.unusedSimpArgs false
set_option maxRecDepth 100000
namespace Go.Proofs.Ytlolldjkahkbfaa
open Aw
theorem lq_ei_4 (n0 : Nat) {x : GChoices} {X : Nat} (hx : EiX x X) (mk af : Nat) (hb : mk + X + af ≤ 1000) (st : Int) (h1 : 0 ≤ st ∧ st ≤ 1000) (s : Nat) (hs : s < x.call.length) (hsr : s < x.ret.length) (hsi : s < x.inner.length) {σ0 : List AObj} {S : Int} {j1 y1 z1 j2 y2 z2 j3 y3 z3 j4 y4 z4 j5 y5 z5 : Nat} (hc : σ0[1]? = some (.row 6 [.agg [i64 S, .own j1 y1 0 z1, .own j2 y2 0 z2, .own j3 y3 0 z3, .own j4 y4 0 z4, .own j5 y5 0 z5]] 0)) (hl0 : 2 ≤ σ0.length) (hn0 : n0 ≤ σ0.length) (g : Good σ0) (n : Nl [] σ0) :
    ∃ t : T3, (∀ ks, rE fns fa_spec_l03Part n0 (.code lo_spec_l03Part_4 :: .inBlock 2 :: ks) [(14, i64 0), (13, .own (σ0.length + 2) 0 0 0), (12, .own (σ0.length + 1) 0 0 0), (11, .own σ0.length 0 0 0), (10, i64 (s : Nat)), (4, i64 (af : Nat)), (3, i64 (mk : Nat)), (2, i64 st), (1, ChP x), (0, .ptr 1 0 0 0)] (σ0 ++ [.row 1 [] 0] ++ [.row 1 [] 0] ++ [.row 1 [] 0]) =
      rE fns fa_spec_l03Part n0 ks [(13, .own (σ0.length + 2) t.2.2.2 0 2), (12, .own (σ0.length + 1) t.2.2.1 0 2), (11, .own σ0.length t.2.1 0 2), (10, i64 (s : Nat)), (4, i64 (af : Nat)), (3, i64 (mk : Nat)), (2, i64 st), (1, ChP x), (0, .ptr 1 0 0 0)] t.1) ∧ KdI σ0 (eiC x st mk s) (eiB x X (mk + X + af) mk st s) (eiI x st s) 2 t := by
  obtain ⟨s1, k1, h1'⟩ := loop_known (F := Q4 n0 x st mk af s σ0.length) (n := 2) (I := KdI σ0 (eiC x st mk s) (eiB x X (mk + X + af) mk st s) (eiI x st s)) (fun k t hk hi => rq_ei_4 n0 hx mk af hb st h1 s hs hsr hsi hc hl0 hn0 k t hk hi) (KdI.start _ _ _ g n)
  refine ⟨s1, fun ks => ?_, h1'⟩
  have e := congrFun k1 ks
  unfold Q4 at e
  have e2 : rE fns fa_spec_l03Part n0 (.code lo_spec_l03Part_4 :: .inBlock 2 :: ks) [(14, i64 (2 : Nat)), (13, .own (σ0.length + 2) s1.2.2.2 0 2), (12, .own (σ0.length + 1) s1.2.2.1 0 2), (11, .own σ0.length s1.2.1 0 2), (10, i64 (s : Nat)), (4, i64 (af : Nat)), (3, i64 (mk : Nat)), (2, i64 st), (1, ChP x), (0, .ptr 1 0 0 0)] s1.1 =
      rE fns fa_spec_l03Part n0 ks [(13, .own (σ0.length + 2) s1.2.2.2 0 2), (12, .own (σ0.length + 1) s1.2.2.1 0 2), (11, .own σ0.length s1.2.1 0 2), (10, i64 (s : Nat)), (4, i64 (af : Nat)), (3, i64 (mk : Nat)), (2, i64 st), (1, ChP x), (0, .ptr 1 0 0 0)] s1.1 := by
    rw [l_spec_l03Part_4]
    simp [lb_spec_l03Part_4]
  rw [e2] at e
  exact e
noncomputable def Q5 (n0 : Nat) (x : GChoices) (st : Int) (mk af : Nat) (k : Nat) (σ : List AObj) (ks : List KI) : Option (PV × List AObj) :=
  rE fns fa_spec_l03Part n0 (.code lo_spec_l03Part_5 :: .inBlock 0 :: ks) [(10, i64 (k : Nat)), (4, i64 (af : Nat)), (3, i64 (mk : Nat)), (2, i64 st), (1, ChP x), (0, .ptr 1 0 0 0)] σ
set_option maxHeartbeats 32000000 in
theorem rq_ei_5 (n0 : Nat) {x : GChoices} {X : Nat} (hx : EiX x X) (S mk af : Nat) (hS : S = mk + X + af) (hSb : S ≤ 1000) (st : Int) (h1 : 0 ≤ st ∧ st ≤ 1000) (s : Nat) (ha : s < x.accept.length) (ha5 : x.accept.length ≤ 1000) (hs : s < x.call.length) (hsr : s < x.ret.length) (hsi : s < x.inner.length) {L1 : List Int} {L2 : List Bool} {L3 : List (List (List GPush))} {L4 : List (List (List (List Int)))} {L5 : List (List (List Int))} (hb : L3.length ≤ 1000 ∧ L4.length ≤ 1000 ∧ L5.length ≤ 1000) {σ : List AObj} (hn0 : n0 ≤ σ.length) {j3 : Nat} (h : OutI σ S j3 L1 L2 L3 L4 L5) :
    ∃ σ' : List AObj, Q5 n0 x st mk af s σ = Q5 n0 x st mk af (s + 1) σ' ∧ OutI σ' S j3 L1 L2 (L3 ++ [(List.range 2).map (eiC x st mk s)]) (L4 ++ [(List.range 2).map (eiB x X S mk st s)]) (L5 ++ [(List.range 2).map (eiI x st s)]) ∧ n0 ≤ σ'.length ∧ (j3 < n0 → objsBel n0 (σ'.take n0) = false) := by
  subst hS
  obtain ⟨⟨j1, y1, e1, d1, j2, y2, e2, d2, y3, e3, d3, j4, y4, e4, d4, j5, y5, e5, d5, hc, l1, l2, l3, l4, l5, ⟨tg, t1, t2, t3, t4, t5, t0, t00⟩, hy1, hy2, hy3, hy4, hy5⟩, z, g, n⟩ := h
  generalize hS : mk + X + af = S at *
  have hl0 : 2 ≤ σ.length := by have := (List.getElem?_eq_some_iff.1 hc).1; omega
  obtain ⟨t, hk, kd⟩ := lq_ei_4 n0 hx mk af (by omega) st h1 s hs hsr hsi hc hl0 hn0 g n
  rw [hS] at kd
  obtain ⟨⟨e6, d6, e7, d7, e8, d8, p1, p2, p3, q1, q2, q3, q12, q13, q23⟩, xe, xg, xn, xv⟩ := kd
  obtain ⟨τ, v1, v2, v3⟩ := t
  simp only at hk p1 p2 p3 xe xg xn xv
  have o1 := p1.own (by simp)
  have o2 := p2.own (by simp)
  have o3 := p3.own (by simp)
  simp only [List.length_map, List.length_range] at o1 o2 o3
  have b6 : ∀ i ∈ d6, σ.length ≤ i := fun i hi => by have := q1 i hi; omega
  have b7 : ∀ i ∈ d7, σ.length ≤ i := fun i hi => by have := q2 i hi; omega
  have b8 : ∀ i ∈ d8, σ.length ≤ i := fun i hi => by have := q3 i hi; omega
  have a1 := l1.lt; have a2 := l2.lt; have a3 := l3.lt; have a4 := l4.lt; have a5 := l5.lt
  have m3 := t3 _ l3.mem; have m4 := t4 _ l4.mem; have m5 := t5 _ l5.mem
  have m1 := t1 _ l1.mem; have m2 := t2 _ l2.mem
  have r1 := a1 _ l1.mem; have r2 := a2 _ l2.mem
  have z3 := a3 _ l3.mem; have z4 := a4 _ l4.mem; have z5 := a5 _ l5.mem
  have hxl := xe.len
  have one : ∀ {d : List Nat} {q : Nat}, (∀ i ∈ d, tg i = q + 1) → ∀ i ∈ d, i ∉ [1] := fun hd i hi hj => by simp at hj; subst hj; have := hd _ hi; omega
  have onb : ∀ {d : List Nat}, (∀ i ∈ d, σ.length ≤ i) → ∀ i ∈ d, i ∉ [1] := fun hd i hi hj => by simp at hj; subst hj; have := hd _ hi; omega
  have ojn : ∀ {j : Nat}, j < σ.length → ∀ {d : List Nat}, (∀ i ∈ d, σ.length ≤ i) → ∀ i ∈ d, i ∉ [j] := fun hj d hd i hi hm => by simp at hm; subst hm; have := hd _ hi; omega
  -- the calls
  have w3 := l3.ext xe
  have at3 := w3.at
  have c3 := w3.push o1 (fun i hi hj => by have := a3 i hi; have := b6 i hj; omega)
  have K1 := Keep.set τ j3 (.row 1 (e3 ++ [.own σ.length v1 0 2]) (y3 + 1))
  have g1 : Good (τ.set j3 (.row 1 (e3 ++ [.own σ.length v1 0 2]) (y3 + 1))) :=
    Good.set xg _ _ _ (by rw [bels_append, Bool.and_eq_true]; exact ⟨Good.at xg at3, by simp only [PV.bels, Bool.and_true]; exact o1.bel⟩)
  have n1 : Nl [] (τ.set j3 (.row 1 (e3 ++ [.own σ.length v1 0 2]) (y3 + 1))) :=
    xn.set _ (row_nl (nls_append (xn.at (by simp) at3) (by simp [PV.nls, PV.nl])))
  have u1 := (l1.ext xe).keep K1 (fun i hi hj => by simp at hj; subst hj; have := t1 _ hi; omega)
  have u2 := (l2.ext xe).keep K1 (fun i hi hj => by simp at hj; subst hj; have := t2 _ hi; omega)
  have u4 := (l4.ext xe).keep K1 (fun i hi hj => by simp at hj; subst hj; have := t4 _ hi; omega)
  have u5 := (l5.ext xe).keep K1 (fun i hi hj => by simp at hj; subst hj; have := t5 _ hi; omega)
  have o2 := K1.own o2 (ojn z3 b7)
  have o3 := K1.own o3 (ojn z3 b8)
  have tc0 := xe.get hc
  have z0 := xe.get z
  have tc1 := K1.get (fun hh => by have := List.mem_singleton.1 hh; rw [this] at t0; omega) tc0
  have z1 := K1.get (fun hh => by have := List.mem_singleton.1 hh; rw [this] at t00; omega) z0
  generalize hσ1 : τ.set j3 (.row 1 (e3 ++ [.own σ.length v1 0 2]) (y3 + 1)) = σ1 at *
  have hs1 : σ1.length = τ.length := K1.1
  -- the object
  have KA := Keep.set σ1 1 (.row 6 [.agg [i64 (S : Nat), .own j1 y1 0 L1.length, .own j2 y2 0 L2.length, .own j3 (y3 + 1) 0 (L3.length + 1), .own j4 y4 0 L4.length, .own j5 y5 0 L5.length]] 0)
  have gA : Good (σ1.set 1 (.row 6 [.agg [i64 (S : Nat), .own j1 y1 0 L1.length, .own j2 y2 0 L2.length, .own j3 (y3 + 1) 0 (L3.length + 1), .own j4 y4 0 L4.length, .own j5 y5 0 L5.length]] 0)) := Good.set g1 _ _ _ (by simp [PV.bels, PV.bel]; omega)
  have nA : Nl [] (σ1.set 1 (.row 6 [.agg [i64 (S : Nat), .own j1 y1 0 L1.length, .own j2 y2 0 L2.length, .own j3 (y3 + 1) 0 (L3.length + 1), .own j4 y4 0 L4.length, .own j5 y5 0 L5.length]] 0)) := n1.set _ (row_nl (by simp [PV.nls, PV.nl]))
  have u1 := u1.keep KA (one t1)
  have u2 := u2.keep KA (one t2)
  have c3 := c3.keep KA (fun i hi hj => by rcases List.mem_append.1 hi with hi | hi; exact one t3 i hi hj; exact onb b6 i hi hj)
  have u4 := u4.keep KA (one t4)
  have u5 := u5.keep KA (one t5)
  have o2 := KA.own o2 (onb b7)
  have o3 := KA.own o3 (onb b8)
  have tcA : (σ1.set 1 (.row 6 [.agg [i64 (S : Nat), .own j1 y1 0 L1.length, .own j2 y2 0 L2.length, .own j3 (y3 + 1) 0 (L3.length + 1), .own j4 y4 0 L4.length, .own j5 y5 0 L5.length]] 0))[1]? = _ := List.getElem?_set_self (by omega)
  have z1 := KA.get (by simp) z1
  generalize hσa : σ1.set 1 (.row 6 [.agg [i64 (S : Nat), .own j1 y1 0 L1.length, .own j2 y2 0 L2.length, .own j3 (y3 + 1) 0 (L3.length + 1), .own j4 y4 0 L4.length, .own j5 y5 0 L5.length]] 0) = σa at *
  have hsa : σa.length = σ1.length := KA.1
  -- the returns
  have at4 := u4.at
  have c4 := u4.push o2 (fun i hi hj => by have := a4 i hi; have := b7 i hj; omega)
  have K2 := Keep.set σa j4 (.row 1 (e4 ++ [.own (σ.length + 1) v2 0 2]) (y4 + 1))
  have g2 : Good (σa.set j4 (.row 1 (e4 ++ [.own (σ.length + 1) v2 0 2]) (y4 + 1))) :=
    Good.set gA _ _ _ (by rw [bels_append, Bool.and_eq_true]; exact ⟨Good.at gA at4, by simp only [PV.bels, Bool.and_true]; exact o2.bel⟩)
  have n2 : Nl [] (σa.set j4 (.row 1 (e4 ++ [.own (σ.length + 1) v2 0 2]) (y4 + 1))) :=
    nA.set _ (row_nl (nls_append (nA.at (by simp) at4) (by simp [PV.nls, PV.nl])))
  have u1 := u1.keep K2 (fun i hi hj => by simp at hj; subst hj; have := t1 _ hi; omega)
  have u2 := u2.keep K2 (fun i hi hj => by simp at hj; subst hj; have := t2 _ hi; omega)
  have c3 := c3.keep K2 (fun i hi hj => by simp at hj; subst hj; rcases List.mem_append.1 hi with hi | hi; have := t3 _ hi; omega; have := b6 _ hi; omega)
  have u5 := u5.keep K2 (fun i hi hj => by simp at hj; subst hj; have := t5 _ hi; omega)
  have o3 := K2.own o3 (ojn z4 b8)
  have tc2 := K2.get (fun hh => by have := List.mem_singleton.1 hh; rw [this] at t0; omega) tcA
  have z2 := K2.get (fun hh => by have := List.mem_singleton.1 hh; rw [this] at t00; omega) z1
  generalize hσ2 : σa.set j4 (.row 1 (e4 ++ [.own (σ.length + 1) v2 0 2]) (y4 + 1)) = σ2 at *
  have hs2 : σ2.length = σa.length := K2.1
  -- the object
  have KB := Keep.set σ2 1 (.row 6 [.agg [i64 (S : Nat), .own j1 y1 0 L1.length, .own j2 y2 0 L2.length, .own j3 (y3 + 1) 0 (L3.length + 1), .own j4 (y4 + 1) 0 (L4.length + 1), .own j5 y5 0 L5.length]] 0)
  have gB : Good (σ2.set 1 (.row 6 [.agg [i64 (S : Nat), .own j1 y1 0 L1.length, .own j2 y2 0 L2.length, .own j3 (y3 + 1) 0 (L3.length + 1), .own j4 (y4 + 1) 0 (L4.length + 1), .own j5 y5 0 L5.length]] 0)) := Good.set g2 _ _ _ (by simp [PV.bels, PV.bel]; omega)
  have nB : Nl [] (σ2.set 1 (.row 6 [.agg [i64 (S : Nat), .own j1 y1 0 L1.length, .own j2 y2 0 L2.length, .own j3 (y3 + 1) 0 (L3.length + 1), .own j4 (y4 + 1) 0 (L4.length + 1), .own j5 y5 0 L5.length]] 0)) := n2.set _ (row_nl (by simp [PV.nls, PV.nl]))
  have u1 := u1.keep KB (one t1)
  have u2 := u2.keep KB (one t2)
  have c3 := c3.keep KB (fun i hi hj => by rcases List.mem_append.1 hi with hi | hi; exact one t3 i hi hj; exact onb b6 i hi hj)
  have c4 := c4.keep KB (fun i hi hj => by rcases List.mem_append.1 hi with hi | hi; exact one t4 i hi hj; exact onb b7 i hi hj)
  have u5 := u5.keep KB (one t5)
  have o3 := KB.own o3 (onb b8)
  have tcB : (σ2.set 1 (.row 6 [.agg [i64 (S : Nat), .own j1 y1 0 L1.length, .own j2 y2 0 L2.length, .own j3 (y3 + 1) 0 (L3.length + 1), .own j4 (y4 + 1) 0 (L4.length + 1), .own j5 y5 0 L5.length]] 0))[1]? = _ := List.getElem?_set_self (by omega)
  have z2 := KB.get (by simp) z2
  generalize hσb : σ2.set 1 (.row 6 [.agg [i64 (S : Nat), .own j1 y1 0 L1.length, .own j2 y2 0 L2.length, .own j3 (y3 + 1) 0 (L3.length + 1), .own j4 (y4 + 1) 0 (L4.length + 1), .own j5 y5 0 L5.length]] 0) = σb at *
  have hsb : σb.length = σ2.length := KB.1
  -- the inner moves
  have at5 := u5.at
  have c5 := u5.push o3 (fun i hi hj => by have := a5 i hi; have := b8 i hj; omega)
  have K3 := Keep.set σb j5 (.row 1 (e5 ++ [.own (σ.length + 2) v3 0 2]) (y5 + 1))
  have g3 : Good (σb.set j5 (.row 1 (e5 ++ [.own (σ.length + 2) v3 0 2]) (y5 + 1))) :=
    Good.set gB _ _ _ (by rw [bels_append, Bool.and_eq_true]; exact ⟨Good.at gB at5, by simp only [PV.bels, Bool.and_true]; exact o3.bel⟩)
  have n3 : Nl [] (σb.set j5 (.row 1 (e5 ++ [.own (σ.length + 2) v3 0 2]) (y5 + 1))) :=
    nB.set _ (row_nl (nls_append (nB.at (by simp) at5) (by simp [PV.nls, PV.nl])))
  have u1 := u1.keep K3 (fun i hi hj => by simp at hj; subst hj; have := t1 _ hi; omega)
  have u2 := u2.keep K3 (fun i hi hj => by simp at hj; subst hj; have := t2 _ hi; omega)
  have c3 := c3.keep K3 (fun i hi hj => by simp at hj; subst hj; rcases List.mem_append.1 hi with hi | hi; have := t3 _ hi; omega; have := b6 _ hi; omega)
  have c4 := c4.keep K3 (fun i hi hj => by simp at hj; subst hj; rcases List.mem_append.1 hi with hi | hi; have := t4 _ hi; omega; have := b7 _ hi; omega)
  have tc3 := K3.get (fun hh => by have := List.mem_singleton.1 hh; rw [this] at t0; omega) tcB
  have z30 := K3.get (fun hh => by have := List.mem_singleton.1 hh; rw [this] at t00; omega) z2
  generalize hσ3 : σb.set j5 (.row 1 (e5 ++ [.own (σ.length + 2) v3 0 2]) (y5 + 1)) = σ3 at *
  have hs3 : σ3.length = σb.length := K3.1
  -- the object that holds them
  have K4 := Keep.set σ3 1 (.row 6 [.agg [i64 (S : Nat), .own j1 y1 0 L1.length, .own j2 y2 0 L2.length, .own j3 (y3 + 1) 0 (L3.length + 1), .own j4 (y4 + 1) 0 (L4.length + 1), .own j5 (y5 + 1) 0 (L5.length + 1)]] 0)
  have u1 := u1.keep K4 (one t1)
  have u2 := u2.keep K4 (one t2)
  have c3 := c3.keep K4 (fun i hi hj => by rcases List.mem_append.1 hi with hi | hi; exact one t3 i hi hj; exact onb b6 i hi hj)
  have c4 := c4.keep K4 (fun i hi hj => by rcases List.mem_append.1 hi with hi | hi; exact one t4 i hi hj; exact onb b7 i hi hj)
  have c5 := c5.keep K4 (fun i hi hj => by rcases List.mem_append.1 hi with hi | hi; exact one t5 i hi hj; exact onb b8 i hi hj)
  refine ⟨σ3.set 1 (.row 6 [.agg [i64 (S : Nat), .own j1 y1 0 L1.length, .own j2 y2 0 L2.length, .own j3 (y3 + 1) 0 (L3.length + 1), .own j4 (y4 + 1) 0 (L4.length + 1), .own j5 (y5 + 1) 0 (L5.length + 1)]] 0), ?_, ⟨⟨j1, y1, e1, d1, j2, y2, e2, d2, y3 + 1, _, _, j4, y4 + 1, _, _, j5, y5 + 1, _, _, ?_, u1, u2, c3, c4, c5, ?_, hy1, hy2, ?_, ?_, ?_⟩, K4.get (by simp) z30, ?_, ?_⟩, ?_, fun hj => ?_⟩
  · have hn3 := l3.len; have hn4 := l4.len; have hn5 := l5.len
    have v3' : y3 < 999999 ∧ y4 < 999999 ∧ y5 < 999999 := by omega
    have hws := wrap_i64 (n := s + 1) (by omega)
    have hlt : (s : Int) < x.accept.length := by omega
    have bb : (L3.length + 1) * 24 ≤ 140737488355328 ∧ (L4.length + 1) * 24 ≤ 140737488355328 ∧ (L5.length + 1) * 24 ≤ 140737488355328 := by omega
    have m1 : n0 ≤ σ.length + 1 := by omega
    have m2 : n0 ≤ σ.length + 1 + 1 := by omega
    have tcX := (Ext.snoc σ (.row 1 [] 0)).get hc
    have tcY := (Ext.snoc (σ ++ [.row 1 [] 0]) (.row 1 [] 0)).get tcX
    have tcZ := (Ext.snoc (σ ++ [.row 1 [] 0] ++ [.row 1 [] 0]) (.row 1 [] 0)).get tcY
    have hn1 : 1 < τ.length ∧ 1 < σ1.length ∧ 1 < σa.length ∧ 1 < σ2.length ∧ 1 < σb.length ∧ 1 < σ3.length := by omega
    clear z z0 z1 z2 z30 l1 l2 l3 l4 l5 p1 p2 p3 o1 o2 o3 u1 u2 u4 u5 c3 c4 c5 K1 K2 K3 K4 KA KB g1 g2 g3 gA gB n1 n2 n3 nA nB xe xg xn w3 one onb ojn
    funext ks
    unfold Q5
    rw [l_spec_l03Part_5]
    simp [-callN] at hk hc tcX tcY tcZ tc0 tc1 tcA tc2 tcB tc3 at3 at4 at5 hσ1 hσa hσ2 hσb hσ3
    simp (config := { maxSteps := 2000000 }) [-callN, lb_spec_l03Part_5, hlt, hk, hc, tcX, tcY, tcZ, tc0, tc1, tcA, tc2, tcB, tc3, at3, at4, at5, hσ1, hσa, hσ2, hσb, hσ3, hn3, hn4, hn5, v3', hws, bb, hn0, m1, m2, setCells]
    done
  · rw [List.getElem?_set_self (by omega)]; simp
  · refine ⟨fun i => if i < σ.length then tg i else if i ∈ d6 then 3 else if i ∈ d7 then 4 else 5, ?_, ?_, ?_, ?_, ?_, ?_, ?_⟩
    · intro i hi; simp only; rw [if_pos (a1 i hi)]; exact t1 i hi
    · intro i hi; simp only; rw [if_pos (a2 i hi)]; exact t2 i hi
    · intro i hi; simp only; rcases List.mem_append.1 hi with hi | hi
      · rw [if_pos (a3 i hi)]; exact t3 i hi
      · rw [if_neg (by have := b6 i hi; omega), if_pos hi]
    · intro i hi; simp only; rcases List.mem_append.1 hi with hi | hi
      · rw [if_pos (a4 i hi)]; exact t4 i hi
      · rw [if_neg (by have := b7 i hi; omega), if_neg (fun hj => q12 i hj hi), if_pos hi]
    · intro i hi; simp only; rcases List.mem_append.1 hi with hi | hi
      · rw [if_pos (a5 i hi)]; exact t5 i hi
      · rw [if_neg (by have := b8 i hi; omega), if_neg (fun hj => q13 i hj hi), if_neg (fun hj => q23 i hj hi)]
    · simp only; rw [if_pos (by omega)]; exact t0
    · simp only; rw [if_pos (by omega)]; exact t00
  · simp; omega
  · simp; omega
  · simp; omega
  · refine Good.set g3 _ _ _ ?_
    simp [PV.bels, PV.bel]
    omega
  · exact n3.set _ (row_nl (by simp [PV.nls, PV.nl]))
  · simp; omega
  · refine Bool.eq_false_iff.2 fun hb => ?_
    have a := c3.at
    have := objsBel_get hb (i := j3) (by rw [List.getElem?_take_of_lt hj]; exact a)
    rw [bels_append, Bool.and_eq_true] at this
    have := this.2
    simp [PV.bels, PV.bel] at this
    omega
theorem lq_ei_5 (n0 : Nat) {x : GChoices} {X : Nat} (hx : EiX x X) (S mk af : Nat) (hS : S = mk + X + af) (hSb : S ≤ 1000) (st : Int) (h1 : 0 ≤ st ∧ st ≤ 1000) (ha5 : x.accept.length ≤ 100) (hs : x.call.length = x.accept.length) (hsr : x.ret.length = x.accept.length) (hsi : x.inner.length = x.accept.length) {L1 : List Int} {L2 : List Bool} {L3 : List (List (List GPush))} {L4 : List (List (List (List Int)))} {L5 : List (List (List Int))} (hb : L3.length ≤ 100 ∧ L4.length ≤ 100 ∧ L5.length ≤ 100) {σ : List AObj} (hn0 : n0 ≤ σ.length) {j3 : Nat} (h : OutI σ S j3 L1 L2 L3 L4 L5) :
    ∃ σ' : List AObj, (∀ ks, rE fns fa_spec_l03Part n0 (.code lo_spec_l03Part_5 :: .inBlock 0 :: ks) [(10, i64 0), (4, i64 (af : Nat)), (3, i64 (mk : Nat)), (2, i64 st), (1, ChP x), (0, .ptr 1 0 0 0)] σ = rE fns fa_spec_l03Part n0 ks [] σ') ∧
      OutI σ' S j3 L1 L2 (L3 ++ eiC3 x st mk x.accept.length) (L4 ++ eiB3 x X S mk st x.accept.length) (L5 ++ eiI3 x st x.accept.length) ∧ (j3 < n0 → 1 ≤ x.accept.length → objsBel n0 (σ'.take n0) = false) ∧ n0 ≤ σ'.length := by
  obtain ⟨s1, k1, h1', hb0, hb1⟩ := loop_known (F := Q5 n0 x st mk af) (n := x.accept.length) (I := fun k σ => OutI σ S j3 L1 L2 (L3 ++ eiC3 x st mk k) (L4 ++ eiB3 x X S mk st k) (L5 ++ eiI3 x st k) ∧ n0 ≤ σ.length ∧ (j3 < n0 → 1 ≤ k → objsBel n0 (σ.take n0) = false)) (fun k t hk hi => by
    obtain ⟨σ', q1, q2, q3, q4⟩ := rq_ei_5 n0 hx S mk af hS hSb st h1 k hk (by omega) (by omega) (by omega) (by omega) (by simp [eiC3, eiB3, eiI3]; omega) hi.2.1 hi.1
    refine ⟨σ', q1, ?_, q3, fun a _ => q4 a⟩
    unfold eiC3 eiB3 eiI3 at q2 ⊢
    rw [map_succ (fun s => (List.range 2).map (eiC x st mk s)) k, map_succ (fun s => (List.range 2).map (eiB x X S mk st s)) k, map_succ (fun s => (List.range 2).map (eiI x st s)) k, ← List.append_assoc, ← List.append_assoc, ← List.append_assoc]
    exact q2) (s := σ) ⟨by simpa [eiC3, eiB3, eiI3] using h, hn0, fun _ h => by omega⟩
  refine ⟨s1, fun ks => ?_, h1', hb1, hb0⟩
  have e := congrFun k1 ks
  unfold Q5 at e
  have e2 : rE fns fa_spec_l03Part n0 (.code lo_spec_l03Part_5 :: .inBlock 0 :: ks) [(10, i64 (x.accept.length : Nat)), (4, i64 (af : Nat)), (3, i64 (mk : Nat)), (2, i64 st), (1, ChP x), (0, .ptr 1 0 0 0)] s1 = rE fns fa_spec_l03Part n0 ks [] s1 := by
    rw [l_spec_l03Part_5]
    simp [lb_spec_l03Part_5]
  rw [e2] at e
  exact e
end Go.Proofs.Ytlolldjkahkbfaa

set_option linter.unusedVariables false
set_option linter.unusedSimpArgs false
set_option maxRecDepth 100000
namespace Go.Proofs.Ytlolldjkahkbfaa
open Aw
set_option maxHeartbeats 16000000 in
theorem ev_sp_first {x : GChoices} {X : Nat} (hx : EiY x X) (S af : Nat) (hS : S = X + af) (hSb : S ≤ 1000) :
    ∃ u σ', ev fns i_spec_l03Part [.ptr 1 0 0 0, ChP x, i64 0, i64 0, i64 (af : Nat)] [zChR, .row 6 [.agg [i64 (S : Nat), .val (.slice none 0 0), .val (.slice none 0 0), .val (.slice none 0 0), .val (.slice none 0 0), .val (.slice none 0 0)]] 0] = some (u, σ') ∧
      OutI σ' S 5 (raiL x.starts 0) x.accept (eiC3 x 0 0 x.accept.length) (eiB3 x X S 0 0 x.accept.length) (eiI3 x 0 x.accept.length) := by
  have hra := ev_spec_l03Raised x.starts 0 hx.s.2 (by omega) hx.s.1
  have hrl : (raiL x.starts 0).length = x.starts.length := by simp [raiL]
  have a5 := hx.a5
  have s5 := hx.s.1
  obtain ⟨σ', hk, ho, -⟩ := lq_ei_5 2 hx.xx S 0 af (by omega) hSb 0 (by omega) (by omega) hx.c hx.r hx.i (L1 := raiL x.starts 0) (L2 := x.accept) (L3 := []) (L4 := []) (L5 := []) (by simp)
    (σ := [zChR, .row 6 [.agg [i64 (S : Nat), .own 3 0 0 x.starts.length, .own 4 0 0 x.accept.length, .own 5 0 0 0, .own 6 0 0 0, .own 7 0 0 0]] 0, .row 1 ((raiL x.starts 0).map Enc.pv) x.starts.length, .row 1 ((raiL x.starts 0).map Enc.pv) 0, .row 1 (x.accept.map Enc.pv) 0, .row 1 [] 0, .row 1 [] 0, .row 1 [] 0]) (by simp)
    ⟨⟨3, 0, _, [3], 4, 0, _, [4], 0, [], [5], 6, 0, [], [6], 7, 0, [], [7], by simp [hrl], Lst.flat (by rfl), Lst.flat (by rfl), ⟨rfl, rfl, ⟨[], rfl, trivial⟩, by simp, by simp⟩, ⟨rfl, rfl, ⟨[], rfl, trivial⟩, by simp, by simp⟩, ⟨rfl, rfl, ⟨[], rfl, trivial⟩, by simp, by simp⟩, ⟨fun i => i - 2, by simp, by simp, by simp, by simp, by simp, by simp, by simp⟩, by omega, by omega, by simp, by simp, by simp⟩, rfl, by
      simp [Good, objsBel, PV.bels, PV.bel, bels_map], by
      refine GoodN.nlX ⟨?_, ?_⟩
      · simp [Good, objsBel, PV.bels, PV.bel, bels_map]
      · refine List.all_eq_true.2 fun o ho => ?_
        simp only [List.mem_cons, List.mem_nil_iff, or_false] at ho
        rcases ho with rfl | rfl | rfl | rfl | rfl | rfl | rfl | rfl
        · rfl
        · rfl
        · exact nls_flat (fun n => by simp [PV.nl]) _
        · exact nls_flat (fun n => by simp [PV.nl]) _
        · exact nls_flat (fun n => by simp [PV.nl]) _
        · rfl
        · rfl
        · rfl⟩
  refine ⟨.tup [], σ', go_spec_l03Part (by simp) ?_, by simpa using ho⟩
  · 
    simp at hk hra
    have htk : List.take x.starts.length (List.map Enc.pv (raiL x.starts 0)) = List.map Enc.pv (raiL x.starts 0) := List.take_of_length_le (by simp [hrl])
    have b1 : x.starts.length * 8 ≤ 140737488355328 ∧ x.accept.length ≤ 140737488355328 := by omega
    have h2 := (show OutI σ' S 5 _ _ _ _ _ from ho).two
    simp [ac_spec_l03Part, h2, hra, hk, htk, hrl, b1, setCells]
    done
set_option maxHeartbeats 16000000 in
theorem ev_sp_second {x : GChoices} {X : Nat} (hx : EiY x X) (ha : 1 ≤ x.accept.length) (S mk af : Nat) (hS : S = mk + X + af) (hSb : S ≤ 1000) (st : Int) (h1 : 0 ≤ st ∧ st ≤ 1000) {j3 : Nat} {L1 : List Int} {L2 : List Bool} {L3 : List (List (List GPush))} {L4 : List (List (List (List Int)))} {L5 : List (List (List Int))} (hL : L1.length ≤ 1000 ∧ L2.length ≤ 100 ∧ L3.length ≤ 100 ∧ L4.length ≤ 100 ∧ L5.length ≤ 100) {σ : List AObj} (h : OutI σ S j3 L1 L2 L3 L4 L5) :
    ∃ σ', ev fns i_spec_l03Part [.ptr 1 0 0 0, ChP x, i64 st, i64 (mk : Nat), i64 (af : Nat)] σ = some (.tup [], σ') ∧
      OutI σ' S j3 (L1 ++ raiL x.starts st) (L2 ++ x.accept) (L3 ++ eiC3 x st mk x.accept.length) (L4 ++ eiB3 x X S mk st x.accept.length) (L5 ++ eiI3 x st x.accept.length) := by
  have hra := ev_spec_l03Raised x.starts st hx.s.2 h1 hx.s.1
  have hrl : (raiL x.starts st).length = x.starts.length := by simp [raiL]
  have a5 := hx.a5
  have s5 := hx.s.1
  obtain ⟨⟨j1, y1, e1, d1, j2, y2, e2, d2, y3, e3, d3, j4, y4, e4, d4, j5, y5, e5, d5, hc, l1, l2, l3, l4, l5, ⟨tg, t1, t2, t3, t4, t5, t0, t00⟩, hy1, hy2, hy3, hy4, hy5⟩, z, g, n⟩ := h
  have m1 := t1 _ l1.mem; have m2 := t2 _ l2.mem; have m3 := t3 _ l3.mem; have m4 := t4 _ l4.mem; have m5 := t5 _ l5.mem
  have E1 := l1.flatE; have E2 := l2.flatE
  subst E1 E2
  have z1 := l1.lt _ l1.mem; have z2 := l2.lt _ l2.mem; have z3 := l3.lt _ l3.mem; have z4 := l4.lt _ l4.mem; have z5 := l5.lt _ l5.mem
  have n1 : ∀ j, tg j = 0 ∨ tg j ≠ 0 := fun j => by omega
  have n10 : j1 ≠ 1 := fun e => by rw [e] at m1; omega
  have n20 : j2 ≠ 1 := fun e => by rw [e] at m2; omega
  have n100 : j1 ≠ 0 := fun e => by rw [e] at m1; omega
  have n200 : j2 ≠ 0 := fun e => by rw [e] at m2; omega
  have n12 : j1 ≠ j2 := fun e => by rw [e] at m1; omega
  have hl0 : 1 < σ.length := (List.getElem?_eq_some_iff.1 hc).1
  have hcall : callN fns i_spec_l03Raised [lst 1 x.starts, i64 st] σ = some (.own σ.length x.starts.length 0 x.starts.length, σ ++ [.row 1 ((raiL x.starts st).map Enc.pv) x.starts.length]) := by
    rw [callN_made (by simp [PV.bels, PV.bel]) hra]
    simp [behind, PV.sh, AObj.sh]
  -- the state
  have X1 := Ext.snoc σ (.row 1 ((raiL x.starts st).map Enc.pv) x.starts.length)
  have hl0' : (σ ++ [AObj.row 1 ((raiL x.starts st).map Enc.pv) x.starts.length]).length = σ.length + 1 := by simp
  have gA : Good (σ ++ [.row 1 ((raiL x.starts st).map Enc.pv) x.starts.length]) := Good.snoc g (bels_map _ _)
  have nA : Nl [] (σ ++ [.row 1 ((raiL x.starts st).map Enc.pv) x.starts.length]) := n.app (by simp only [List.all_cons, List.all_nil, Bool.and_true]; exact nls_flat (fun n => by simp [PV.nl]) _)
  have hsh : (σ ++ [AObj.row 1 ((raiL x.starts st).map Enc.pv) x.starts.length])[σ.length]? = some (.row 1 ((raiL x.starts st).map Enc.pv) x.starts.length) := by simp
  have a1 := (l1.ext X1).at; have a2 := (l2.ext X1).at; have b3 := l3.ext X1; have b4 := l4.ext X1; have b5 := l5.ext X1; have cA := X1.get hc; have zA := X1.get z
  have i3 := l3.lt; have i4 := l4.lt; have i5 := l5.lt
  generalize hσA : σ ++ [AObj.row 1 ((raiL x.starts st).map Enc.pv) x.starts.length] = σA at *
  -- the states it may begin in
  have eb : ∀ n, PV.bels n (L1.map Enc.pv ++ (raiL x.starts st).map Enc.pv) = true := fun n => by rw [bels_append, Bool.and_eq_true]; exact ⟨bels_map _ _, bels_map _ _⟩
  have en : PV.nls (L1.map Enc.pv ++ (raiL x.starts st).map Enc.pv) = true := nls_append (nls_flat (fun n => by simp [PV.nl]) _) (nls_flat (fun n => by simp [PV.nl]) _)
  have K1 := Keep.set σA j1 (.row 1 (L1.map Enc.pv ++ (raiL x.starts st).map Enc.pv) (y1 + 1))
  have gB : Good (σA.set j1 (.row 1 (L1.map Enc.pv ++ (raiL x.starts st).map Enc.pv) (y1 + 1))) := Good.set gA _ _ _ (eb _)
  have nB : Nl [] (σA.set j1 (.row 1 (L1.map Enc.pv ++ (raiL x.starts st).map Enc.pv) (y1 + 1))) := nA.set _ (row_nl en)
  have a1' : (σA.set j1 (.row 1 (L1.map Enc.pv ++ (raiL x.starts st).map Enc.pv) (y1 + 1)))[j1]? = some (.row 1 ((L1 ++ raiL x.starts st).map Enc.pv) (y1 + 1)) := by rw [List.getElem?_set_self (by omega), List.map_append]
  have a2 := K1.get (fun hh => by have := List.mem_singleton.1 hh; omega) a2
  have b3 := b3.keep K1 (fun i hi hj => by simp at hj; subst hj; have := t3 _ hi; omega)
  have b4 := b4.keep K1 (fun i hi hj => by simp at hj; subst hj; have := t4 _ hi; omega)
  have b5 := b5.keep K1 (fun i hi hj => by simp at hj; subst hj; have := t5 _ hi; omega)
  have cB := K1.get (fun hh => by have := List.mem_singleton.1 hh; omega) cA
  have zB := K1.get (fun hh => by have := List.mem_singleton.1 hh; omega) zA
  have hlB : σA.length = (σA.set j1 (.row 1 (L1.map Enc.pv ++ (raiL x.starts st).map Enc.pv) (y1 + 1))).length := by simp
  generalize hσB : σA.set j1 (.row 1 (L1.map Enc.pv ++ (raiL x.starts st).map Enc.pv) (y1 + 1)) = σB at *
  -- the object
  have K2 := Keep.set σB 1 (.row 6 [.agg [i64 (S : Nat), .own j1 (y1 + 1) 0 (L1.length + x.starts.length), .own j2 y2 0 L2.length, .own j3 y3 0 L3.length, .own j4 y4 0 L4.length, .own j5 y5 0 L5.length]] 0)
  have gC : Good (σB.set 1 (.row 6 [.agg [i64 (S : Nat), .own j1 (y1 + 1) 0 (L1.length + x.starts.length), .own j2 y2 0 L2.length, .own j3 y3 0 L3.length, .own j4 y4 0 L4.length, .own j5 y5 0 L5.length]] 0)) := Good.set gB _ _ _ (by simp [PV.bels, PV.bel]; omega)
  have nC : Nl [] (σB.set 1 (.row 6 [.agg [i64 (S : Nat), .own j1 (y1 + 1) 0 (L1.length + x.starts.length), .own j2 y2 0 L2.length, .own j3 y3 0 L3.length, .own j4 y4 0 L4.length, .own j5 y5 0 L5.length]] 0)) := nB.set _ (row_nl (by simp [PV.nls, PV.nl]))
  have a1' := K2.get (fun hh => by have := List.mem_singleton.1 hh; omega) a1'
  have a2 := K2.get (fun hh => by have := List.mem_singleton.1 hh; omega) a2
  have b3 := b3.keep K2 (fun i hi hj => by simp at hj; subst hj; have := t3 _ hi; omega)
  have b4 := b4.keep K2 (fun i hi hj => by simp at hj; subst hj; have := t4 _ hi; omega)
  have b5 := b5.keep K2 (fun i hi hj => by simp at hj; subst hj; have := t5 _ hi; omega)
  have zC := K2.get (by simp) zB
  have cC : (σB.set 1 (.row 6 [.agg [i64 (S : Nat), .own j1 (y1 + 1) 0 (L1.length + x.starts.length), .own j2 y2 0 L2.length, .own j3 y3 0 L3.length, .own j4 y4 0 L4.length, .own j5 y5 0 L5.length]] 0))[1]? = some (.row 6 [.agg [i64 (S : Nat), .own j1 (y1 + 1) 0 (L1.length + x.starts.length), .own j2 y2 0 L2.length, .own j3 y3 0 L3.length, .own j4 y4 0 L4.length, .own j5 y5 0 L5.length]] 0) := List.getElem?_set_self (by omega)
  have hlC : σB.length = (σB.set 1 (.row 6 [.agg [i64 (S : Nat), .own j1 (y1 + 1) 0 (L1.length + x.starts.length), .own j2 y2 0 L2.length, .own j3 y3 0 L3.length, .own j4 y4 0 L4.length, .own j5 y5 0 L5.length]] 0)).length := by simp
  generalize hσC : σB.set 1 (.row 6 [.agg [i64 (S : Nat), .own j1 (y1 + 1) 0 (L1.length + x.starts.length), .own j2 y2 0 L2.length, .own j3 y3 0 L3.length, .own j4 y4 0 L4.length, .own j5 y5 0 L5.length]] 0) = σC at *
  -- the states it may end in
  have eb2 : ∀ n, PV.bels n (L2.map Enc.pv ++ x.accept.map Enc.pv) = true := fun n => by rw [bels_append, Bool.and_eq_true]; exact ⟨bels_map _ _, bels_map _ _⟩
  have en2 : PV.nls (L2.map Enc.pv ++ x.accept.map Enc.pv) = true := nls_append (nls_flat (fun n => by simp [PV.nl]) _) (nls_flat (fun n => by simp [PV.nl]) _)
  have K3 := Keep.set σC j2 (.row 1 (L2.map Enc.pv ++ x.accept.map Enc.pv) (y2 + 1))
  have gD : Good (σC.set j2 (.row 1 (L2.map Enc.pv ++ x.accept.map Enc.pv) (y2 + 1))) := Good.set gC _ _ _ (eb2 _)
  have nD : Nl [] (σC.set j2 (.row 1 (L2.map Enc.pv ++ x.accept.map Enc.pv) (y2 + 1))) := nC.set _ (row_nl en2)
  have a2' : (σC.set j2 (.row 1 (L2.map Enc.pv ++ x.accept.map Enc.pv) (y2 + 1)))[j2]? = some (.row 1 ((L2 ++ x.accept).map Enc.pv) (y2 + 1)) := by rw [List.getElem?_set_self (by omega), List.map_append]
  have a1' := K3.get (fun hh => by have := List.mem_singleton.1 hh; omega) a1'
  have b3 := b3.keep K3 (fun i hi hj => by simp at hj; subst hj; have := t3 _ hi; omega)
  have b4 := b4.keep K3 (fun i hi hj => by simp at hj; subst hj; have := t4 _ hi; omega)
  have b5 := b5.keep K3 (fun i hi hj => by simp at hj; subst hj; have := t5 _ hi; omega)
  have cD := K3.get (fun hh => by have := List.mem_singleton.1 hh; omega) cC
  have zD := K3.get (fun hh => by have := List.mem_singleton.1 hh; omega) zC
  have hlD : σC.length = (σC.set j2 (.row 1 (L2.map Enc.pv ++ x.accept.map Enc.pv) (y2 + 1))).length := by simp
  generalize hσD : σC.set j2 (.row 1 (L2.map Enc.pv ++ x.accept.map Enc.pv) (y2 + 1)) = σD at *
  -- the object
  have K4 := Keep.set σD 1 (.row 6 [.agg [i64 (S : Nat), .own j1 (y1 + 1) 0 (L1.length + x.starts.length), .own j2 (y2 + 1) 0 (L2.length + x.accept.length), .own j3 y3 0 L3.length, .own j4 y4 0 L4.length, .own j5 y5 0 L5.length]] 0)
  have gE : Good (σD.set 1 (.row 6 [.agg [i64 (S : Nat), .own j1 (y1 + 1) 0 (L1.length + x.starts.length), .own j2 (y2 + 1) 0 (L2.length + x.accept.length), .own j3 y3 0 L3.length, .own j4 y4 0 L4.length, .own j5 y5 0 L5.length]] 0)) := Good.set gD _ _ _ (by simp [PV.bels, PV.bel]; omega)
  have nE : Nl [] (σD.set 1 (.row 6 [.agg [i64 (S : Nat), .own j1 (y1 + 1) 0 (L1.length + x.starts.length), .own j2 (y2 + 1) 0 (L2.length + x.accept.length), .own j3 y3 0 L3.length, .own j4 y4 0 L4.length, .own j5 y5 0 L5.length]] 0)) := nD.set _ (row_nl (by simp [PV.nls, PV.nl]))
  have a1' := K4.get (fun hh => by have := List.mem_singleton.1 hh; omega) a1'
  have a2' := K4.get (fun hh => by have := List.mem_singleton.1 hh; omega) a2'
  have b3 := b3.keep K4 (fun i hi hj => by simp at hj; subst hj; have := t3 _ hi; omega)
  have b4 := b4.keep K4 (fun i hi hj => by simp at hj; subst hj; have := t4 _ hi; omega)
  have b5 := b5.keep K4 (fun i hi hj => by simp at hj; subst hj; have := t5 _ hi; omega)
  have zE := K4.get (by simp) zD
  have cE : (σD.set 1 (.row 6 [.agg [i64 (S : Nat), .own j1 (y1 + 1) 0 (L1.length + x.starts.length), .own j2 (y2 + 1) 0 (L2.length + x.accept.length), .own j3 y3 0 L3.length, .own j4 y4 0 L4.length, .own j5 y5 0 L5.length]] 0))[1]? = some (.row 6 [.agg [i64 (S : Nat), .own j1 (y1 + 1) 0 (L1.length + x.starts.length), .own j2 (y2 + 1) 0 (L2.length + x.accept.length), .own j3 y3 0 L3.length, .own j4 y4 0 L4.length, .own j5 y5 0 L5.length]] 0) := List.getElem?_set_self (by omega)
  have hlE : σD.length = (σD.set 1 (.row 6 [.agg [i64 (S : Nat), .own j1 (y1 + 1) 0 (L1.length + x.starts.length), .own j2 (y2 + 1) 0 (L2.length + x.accept.length), .own j3 y3 0 L3.length, .own j4 y4 0 L4.length, .own j5 y5 0 L5.length]] 0)).length := by simp
  generalize hσE : σD.set 1 (.row 6 [.agg [i64 (S : Nat), .own j1 (y1 + 1) 0 (L1.length + x.starts.length), .own j2 (y2 + 1) 0 (L2.length + x.accept.length), .own j3 y3 0 L3.length, .own j4 y4 0 L4.length, .own j5 y5 0 L5.length]] 0) = σE at *
  obtain ⟨σ', hk, ho, hb, hb0⟩ := lq_ei_5 σ.length hx.xx S mk af hS hSb st h1 (by omega) hx.c hx.r hx.i (L1 := L1 ++ raiL x.starts st) (L2 := L2 ++ x.accept) (L3 := L3) (L4 := L4) (L5 := L5) ⟨hL.2.2.1, hL.2.2.2.1, hL.2.2.2.2⟩ (σ := σE) (by omega) (j3 := j3)
    ⟨⟨j1, y1 + 1, _, _, j2, y2 + 1, _, _, y3, e3, d3, j4, y4, e4, d4, j5, y5, e5, d5, by simpa [hrl] using cE, Lst.flat a1', Lst.flat a2', b3, b4, b5, ⟨tg, by simpa using m1, by simpa using m2, t3, t4, t5, t0, t00⟩, by simp; omega, by simp; omega, hy3, hy4, hy5⟩, zE, gE, nE⟩
  have hb := hb z3 ha
  have hg := ho.two.2.2
  refine ⟨σ', go_spec_l03Part (by simp) ?_, ho⟩
  have hX1 : (σ ++ [AObj.row 1 [ChP x] 0]) = (σ ++ [AObj.row 1 [ChP x] 0]) := rfl
  have htk : List.take x.starts.length (List.map Enc.pv (raiL x.starts st)) = List.map Enc.pv (raiL x.starts st) := List.take_of_length_le (by simp [hrl])
  have b1 : (L1.length + x.starts.length) * 8 ≤ 140737488355328 ∧ L2.length + x.accept.length ≤ 140737488355328 := by omega
  have v9 : y1 < 999999 ∧ y2 < 999999 := by omega
  have a1 := (l1.ext X1).at
  clear l1 l2 l3 l4 l5 b3 b4 b5 a1' a2' K1 K2 K3 K4 gA gB gC gD gE nA nB nC nD nE zA zB zC zD zE eb en eb2 en2 ho X1
  simp [-callN] at hk hc hcall hσA hσB hσC hσD hσE a1 a2 hsh cA cB cC cD cE
  simp [-callN, ac_spec_l03Part, hc, hcall, hk, htk, hrl, b1, v9, a1, a2, hsh, cA, cB, cC, cD, cE, hσA, hσB, hσC, hσD, hσE, hb, hb0, hg, setCells]
  done
end Go.Proofs.Ytlolldjkahkbfaa
