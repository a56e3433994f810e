/- Both choices: the program's EitherChoices. -/
import Derived.Test.YtlolldjkahkbfaaEiE
set_option linter.unusedVariables false
set_option linter.unusedSimpArgs false
set_option maxRecDepth 100000
namespace Go.Proofs.Ytlolldjkahkbfaa
open Aw
theorem OutI.own {σ : List AObj} {S j3 : Nat} {L1 : List Int} {L2 : List Bool} {L3 : List (List (List GPush))} {L4 : List (List (List (List Int)))} {L5 : List (List (List Int))} (h : OutI σ S j3 L1 L2 L3 L4 L5) (hL : L1.length ≤ 1000 ∧ L2.length ≤ 1000 ∧ L3.length ≤ 1000 ∧ L4.length ≤ 1000 ∧ L5.length ≤ 1000) :
    ∃ j1 y1 j2 y2 j3 y3 j4 y4 j5 y5 ids, σ[1]? = some (.row 6 [.agg [i64 (S : Nat), .own j1 y1 0 L1.length, .own j2 y2 0 L2.length, .own j3 y3 0 L3.length, .own j4 y4 0 L4.length, .own j5 y5 0 L5.length]] 0) ∧
      OwnIn σ ids (.agg [i64 (S : Nat), .own j1 y1 0 L1.length, .own j2 y2 0 L2.length, .own j3 y3 0 L3.length, .own j4 y4 0 L4.length, .own j5 y5 0 L5.length]) (⟨(S : Int), L1, L2, L3, L4, L5⟩ : GChoices) ∧ 0 ∉ ids ∧ 1 ∉ ids := by
  obtain ⟨j1, y1, e1, d1, j2, y2, e2, d2, y3, e3, d3, j4, y4, e4, d4, j5, y5, e5, d5, hc, l1, l2, l3, l4, l5, ⟨tg, t1, t2, t3, t4, t5, t0, t00⟩, hy1, hy2, hy3, hy4, hy5⟩ := h.ex
  have o1 := l1.own (by omega); have o2 := l2.own (by omega); have o3 := l3.own (by omega); have o4 := l4.own (by omega); have o5 := l5.own (by omega)
  refine ⟨j1, y1, j2, y2, j3, y3, j4, y4, j5, y5, [] ++ d1 ++ d2 ++ d3 ++ d4 ++ d5, hc, ⟨own_Choices.2 ⟨[], _, d1, _, d2, _, d3, _, d4, _, d5, _, rfl, rfl, ⟨rfl, rfl⟩, o1.own, o2.own, o3.own, o4.own, o5.own⟩, ?_, ?_⟩, ?_, ?_⟩
  · have a1 := o1.nd; have a2 := o2.nd; have a3 := o3.nd; have a4 := o4.nd; have a5 := o5.nd
    simp only [List.nil_append, List.nodup_append, List.mem_append]
    refine ⟨⟨⟨⟨a1, a2, ?_⟩, a3, ?_⟩, a4, ?_⟩, a5, ?_⟩
    · intro i hi j hj e; subst e; have := t1 _ hi; have := t2 _ hj; omega
    · intro i hi j hj e; subst e; have := t3 _ hj; rcases hi with hi | hi; have := t1 _ hi; omega; have := t2 _ hi; omega
    · intro i hi j hj e; subst e; have := t4 _ hj; rcases hi with (hi | hi) | hi; have := t1 _ hi; omega; have := t2 _ hi; omega; have := t3 _ hi; omega
    · intro i hi j hj e; subst e; have := t5 _ hj; rcases hi with ((hi | hi) | hi) | hi; have := t1 _ hi; omega; have := t2 _ hi; omega; have := t3 _ hi; omega; have := t4 _ hi; omega
  · intro i hi
    simp only [List.nil_append, List.mem_append] at hi
    rcases hi with (((hi | hi) | hi) | hi) | hi
    · exact l1.lt i hi
    · exact l2.lt i hi
    · exact l3.lt i hi
    · exact l4.lt i hi
    · exact l5.lt i hi
  · intro hi
    simp only [List.nil_append, List.mem_append] at hi
    rcases hi with (((hi | hi) | hi) | hi) | hi
    · have := t1 _ hi; omega
    · have := t2 _ hi; omega
    · have := t3 _ hi; omega
    · have := t4 _ hi; omega
    · have := t5 _ hi; omega
  · intro hi
    simp only [List.nil_append, List.mem_append] at hi
    rcases hi with (((hi | hi) | hi) | hi) | hi
    · have := t1 _ hi; omega
    · have := t2 _ hi; omega
    · have := t3 _ hi; omega
    · have := t4 _ hi; omega
    · have := t5 _ hi; omega
@[simp] abbrev zChV : PV := .agg [i64 0, .val (.slice none 0 0), .val (.slice none 0 0), .val (.slice none 0 0), .val (.slice none 0 0), .val (.slice none 0 0)]
@[simp] abbrev shCh : Sh := .agg [.any, .lst 1 .any, .lst 1 .any, .lst 1 (.lst 1 (.lst 2 .any)), .lst 1 (.lst 1 (.lst 1 (.lst 1 .any))), .lst 1 (.lst 1 (.lst 1 .any))]
set_option maxHeartbeats 4000000 in
theorem ev_choicesOrLimit {σ : List AObj} {ids : List Nat} {S j1 y1 n1 j2 y2 n2 j3 y3 n3 j4 y4 n4 j5 y5 n5 : Nat} {m : GChoices} (o : OwnIn σ ids (.agg [i64 (S : Nat), .own j1 y1 0 n1, .own j2 y2 0 n2, .own j3 y3 0 n3, .own j4 y4 0 n4, .own j5 y5 0 n5]) m) (g : Good σ) (hz : Siz.size m ≤ 1048576) :
    ev fns i_impl_choicesOrLimit [.agg [i64 (S : Nat), .own j1 y1 0 n1, .own j2 y2 0 n2, .own j3 y3 0 n3, .own j4 y4 0 n4, .own j5 y5 0 n5]] σ = some (if okCh m = true then .tup [.agg [i64 (S : Nat), .own j1 y1 0 n1, .own j2 y2 0 n2, .own j3 y3 0 n3, .own j4 y4 0 n4, .own j5 y5 0 n5], i64 0] else .tup [zChV, i64 3], σ) := by
  have hV := ev_impl_ValidChoices m hz
  have hv : ∀ a b : AObj, callT fns [shCh] i_impl_ValidChoices [.agg [i64 (S : Nat), .own j1 y1 0 n1, .own j2 y2 0 n2, .own j3 y3 0 n3, .own j4 y4 0 n4, .own j5 y5 0 n5]] (σ ++ [a, b]) = some (bol (okCh m), σ ++ [a, b]) := fun a b => by
    obtain ⟨q, d, y⟩ := (Ext.own (⟨[a, b], rfl⟩ : Ext σ (σ ++ [a, b])) o).read (by decide)
    have y : PV.ty shCh q = m.v := y
    exact callT_readL (qs := [q]) (by simp only [mapO, d]) (by simp only [PV.tys, y]; exact hV) (by simp) (by simp [PV.nl])
  have hb := o.bel
  unfold Good at g
  simp [PV.bel, PV.bels] at hb
  refine go_impl_choicesOrLimit (by simp) ?_
  cases c : okCh m
  · rw [c] at hv
    simp [-callN, -callT] at hv
    simp [-callN, -callT, ac_impl_choicesOrLimit, hv, g, hb, setCells]
    done
  · rw [c] at hv
    simp [-callN, -callT] at hv
    simp [-callN, -callT, ac_impl_choicesOrLimit, hv, g, hb, setCells]
    done
theorem own_zCh0 (σ : List AObj) : OwnIn σ [] zChV zCh0 := by
  refine ⟨own_Choices.2 ⟨[], _, [], _, [], _, [], _, [], _, [], _, rfl, rfl, ⟨rfl, rfl⟩, ?_, ?_, ?_, ?_, ?_⟩, by simp, by simp⟩
  all_goals exact .inl ⟨rfl, rfl, rfl⟩
set_option maxHeartbeats 8000000 in
theorem imC_EitherChoices (a : GChoices) (ha : Siz.size a ≤ 1048576) (b : GChoices) (hb : Siz.size b ≤ 1048576) :
    ∃ p τ ids, ev fns i_impl_EitherChoices [a.v, b.v] [] = some (.tup [p, i64 (eiA a b).2], τ) ∧ OwnIn τ ids p (eiA a b).1 ∧ GoodN τ := by
  have hv1 := ev_impl_ValidChoices a ha
  have hv2 := ev_impl_ValidChoices b hb
  unfold eiA
  cases c1 : okCh a
  · rw [c1] at hv1
    simp at hv1
    refine ⟨zChV, [], [], go_impl_EitherChoices (by simp) ?_, by simpa using own_zCh0 _, GoodN.nil⟩
    simp [ac_impl_EitherChoices, hv1, setCells]
    done
  rw [c1] at hv1
  cases c2 : okCh b
  · rw [c2] at hv2
    simp at hv1 hv2
    refine ⟨zChV, [], [], go_impl_EitherChoices (by simp) ?_, by simpa using own_zCh0 _, GoodN.nil⟩
    simp [ac_impl_EitherChoices, hv1, hv2, setCells]
    done
  rw [c2] at hv2
  obtain ⟨A, hA⟩ := okCh_sh c1
  obtain ⟨B, hB⟩ := okCh_sh c2
  have eA := hA.st
  have eB := hB.st
  have nA := hA.n
  have nB := hB.n
  have sA := hA.s.1
  have sB := hB.s.1
  obtain ⟨u, σ1, k1, o1⟩ := ev_ei_first hA.y (A + B) (by omega) (by omega)
  obtain ⟨σ2, k2, o2⟩ := ev_ei_second hB.y (by omega) (A + B) A (by omega) (by omega) a.accept.length (by omega) (by simp [raiL, eiC3, eiB3, eiI3]; omega) o1
  obtain ⟨j1, y1, j2, y2, j3, y3, j4, y4, j5, y5, ids, hc, ow, i0, i1⟩ := o2.own (by simp [raiL, eiC3, eiB3, eiI3]; omega)
  have hO : (⟨((A + B : Nat) : Int), raiL a.starts 0 ++ raiL b.starts a.accept.length, a.accept ++ b.accept, eiC3 a 0 0 a.accept.length ++ eiC3 b a.accept.length A b.accept.length, eiB3 a A (A + B) 0 0 a.accept.length ++ eiB3 b B (A + B) A a.accept.length b.accept.length, eiI3 a 0 a.accept.length ++ eiI3 b a.accept.length b.accept.length⟩ : GChoices) = eiO a b := by
    have e1 : a.stack.toNat = A := by omega
    have e2 : b.stack.toNat = B := by omega
    unfold eiO; rw [e1, e2]
  rw [hO] at ow
  have hL := ev_choicesOrLimit ow o2.g (by have := size_eiO hA hB; omega)
  have z0 := o2.z
  have g2 := o2.g
  have n2 := o2.n
  have hw : IntKind.i64.wrap ((A : Int) + B) = (A : Int) + B := wrap_i64 (by omega)
  have hsz := ev_szB a.accept
  have z1 := o1.z
  have hl0 : 0 < σ2.length := (List.getElem?_eq_some_iff.1 z0).1
  have q0 : ∀ r, (σ2.set 0 r)[0]? = some r := fun r => List.getElem?_set_self hl0
  generalize h1 : (raiL a.starts 0 ++ raiL b.starts (a.accept.length : Int)).length = q1 at *
  generalize h2 : (a.accept ++ b.accept).length = q2 at *
  generalize h3 : (eiC3 a 0 0 a.accept.length ++ eiC3 b a.accept.length A b.accept.length).length = q3 at *
  generalize h4 : (eiB3 a A (A + B) 0 0 a.accept.length ++ eiB3 b B (A + B) A a.accept.length b.accept.length).length = q4 at *
  generalize h5 : (eiI3 a 0 a.accept.length ++ eiI3 b a.accept.length b.accept.length).length = q5 at *
  cases c3 : okCh (eiO a b)
  · rw [c3] at hL
    refine ⟨zChV, [], [], go_impl_EitherChoices (by simp) ?_, by simpa using own_zCh0 _, GoodN.nil⟩
    simp [eA.1, eB.1] at hv1 hv2 k1 k2 hc hL hsz z0 z1
    simp [ac_impl_EitherChoices, hv1, hv2, eA.1, eB.1, hw, k1, k2, hc, hL, hsz, z0, z1, q0, setCells]
    done
  · rw [c3] at hL
    have K := Keep.set σ2 0 (.row 6 [.agg [i64 ((A + B : Nat) : Int), .own j1 y1 0 q1, .own j2 y2 0 q2, .own j3 y3 0 q3, .own j4 y4 0 q4, .own j5 y5 0 q5]] 0)
    have gg : Good (σ2.set 0 (.row 6 [.agg [i64 ((A + B : Nat) : Int), .own j1 y1 0 q1, .own j2 y2 0 q2, .own j3 y3 0 q3, .own j4 y4 0 q4, .own j5 y5 0 q5]] 0)) := Good.set g2 _ _ _ (by simp only [PV.bels, Bool.and_true]; exact ow.bel)
    have nn := n2.set 0 (r := .row 6 [.agg [i64 ((A + B : Nat) : Int), .own j1 y1 0 q1, .own j2 y2 0 q2, .own j3 y3 0 q3, .own j4 y4 0 q4, .own j5 y5 0 q5]] 0) (row_nl (by simp [PV.nls, PV.nl]))
    have ob := ow.bel
    refine ⟨.agg [i64 ((A + B : Nat) : Int), .own j1 y1 0 q1, .own j2 y2 0 q2, .own j3 y3 0 q3, .own j4 y4 0 q4, .own j5 y5 0 q5], σ2.set 0 (.row 6 [.agg [i64 ((A + B : Nat) : Int), .own j1 y1 0 q1, .own j2 y2 0 q2, .own j3 y3 0 q3, .own j4 y4 0 q4, .own j5 y5 0 q5]] 0), ids, go_impl_EitherChoices (by simp) ?_, ?_, nn.good gg⟩
    · clear K nn ow o1 o2 hO
      unfold Good at gg
      simp [eA.1, eB.1] at hv1 hv2 k1 k2 hc hL hsz z0 z1 gg ob
      simp [ac_impl_EitherChoices, hv1, hv2, eA.1, eB.1, hw, k1, k2, hc, hL, hsz, z0, z1, q0, gg, ob, setCells]
      done
    · simpa using K.own ow (fun i hi hj => by simp at hj; subst hj; exact i0 hi)
end Go.Proofs.Ytlolldjkahkbfaa
