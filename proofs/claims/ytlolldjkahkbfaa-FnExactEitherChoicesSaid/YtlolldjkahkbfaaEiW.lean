/- Both choices: the reference's EitherChoices. -/
import Derived.Test.YtlolldjkahkbfaaEiV
set_option linter.unusedVariables false
set_option linter.unusedSimpArgs false
set_option maxRecDepth 100000
namespace Go.Proofs.Ytlolldjkahkbfaa
open Aw
@[simp] abbrev shChs : List Sh := [.any, .lst 1 .any, .lst 1 .any, .lst 1 (.lst 1 (.lst 2 .any)), .lst 1 (.lst 1 (.lst 1 (.lst 1 .any))), .lst 1 (.lst 1 (.lst 1 .any))]
set_option maxHeartbeats 4000000 in
theorem ev_spec_l03Told {σ : List AObj} {ids : List Nat} {S j1 y1 n1 j2 y2 n2 j3 y3 n3 j4 y4 n4 j5 y5 n5 : Nat} {m : GChoices} (o : OwnIn σ ids (.agg [i64 (S : Nat), .own j1 y1 0 n1, .own j2 y2 0 n2, .own j3 y3 0 n3, .own j4 y4 0 n4, .own j5 y5 0 n5]) m) (g : Good σ) (hz : Siz.size m ≤ 1048576) :
    ev fns i_spec_l03Told [.agg [i64 (S : Nat), .own j1 y1 0 n1, .own j2 y2 0 n2, .own j3 y3 0 n3, .own j4 y4 0 n4, .own j5 y5 0 n5]] σ = some (if okCh m = true then .tup [.agg [i64 (S : Nat), .own j1 y1 0 n1, .own j2 y2 0 n2, .own j3 y3 0 n3, .own j4 y4 0 n4, .own j5 y5 0 n5], i64 0] else .tup [zChV, i64 3], σ) := by
  have hV := ev_spec_l03Ok m hz
  have hv : ∀ b : AObj, callT fns [.fp shChs] i_spec_l03Ok [.ptr σ.length 0 0 0] (σ ++ [.row 6 [.agg [i64 (S : Nat), .own j1 y1 0 n1, .own j2 y2 0 n2, .own j3 y3 0 n3, .own j4 y4 0 n4, .own j5 y5 0 n5]] 0, b]) = some (bol (okCh m), σ ++ [.row 6 [.agg [i64 (S : Nat), .own j1 y1 0 n1, .own j2 y2 0 n2, .own j3 y3 0 n3, .own j4 y4 0 n4, .own j5 y5 0 n5]] 0, b]) := fun b => by
    obtain ⟨q, d, y⟩ := (Ext.own (⟨[.row 6 [.agg [i64 (S : Nat), .own j1 y1 0 n1, .own j2 y2 0 n2, .own j3 y3 0 n3, .own j4 y4 0 n4, .own j5 y5 0 n5]] 0, b], rfl⟩ : Ext σ (σ ++ [.row 6 [.agg [i64 (S : Nat), .own j1 y1 0 n1, .own j2 y2 0 n2, .own j3 y3 0 n3, .own j4 y4 0 n4, .own j5 y5 0 n5]] 0, b])) o).read (by decide)
    rw [show ∀ τ ps, dfr τ 9 (.agg ps) = (mapO (dfr τ 8) ps).map .agg from fun _ _ => rfl, Option.map_eq_some_iff] at d
    obtain ⟨qs, d, rfl⟩ := d
    have y : PV.tys shChs qs = [i64 m.stack, lst 1 m.starts, lst 1 m.accept, lst 1 m.call, lst 1 m.ret, lst 1 m.inner] := by
      have : PV.agg (PV.tys shChs qs) = m.v := y
      injection this
    refine callT_readL (qs := [.fptr qs 0]) ?_ (by have h0 : PV.tys [.fp shChs] [.fptr qs 0] = [.fptr (PV.tys shChs qs) 0] := rfl; rw [h0, y]; exact hV) (by simp) (by simp [PV.nl])
    have e : dfr (σ ++ [.row 6 [.agg [i64 (S : Nat), .own j1 y1 0 n1, .own j2 y2 0 n2, .own j3 y3 0 n3, .own j4 y4 0 n4, .own j5 y5 0 n5]] 0, b]) 9 (.ptr σ.length 0 0 0) = some (.fptr qs 0) := by
      rw [show ∀ τ id, dfr τ 9 (.ptr id 0 0 0) = (match τ[id]? with
        | some (.row sz es ver') => if 0 = ver' then (match es[0]? with | some e => (mapO (dfr τ 8) e.cells).map fun cs => .fptr cs 0 | none => none) else none
        | none => none) from fun _ _ => rfl]
      simp [PV.cells, d]
    simp only [mapO, e]
  have hb := o.bel
  unfold Good at g
  simp [PV.bel, PV.bels] at hb
  have x1 : (σ ++ [AObj.row 6 [.agg [i64 (S : Nat), .own j1 y1 0 n1, .own j2 y2 0 n2, .own j3 y3 0 n3, .own j4 y4 0 n4, .own j5 y5 0 n5]] 0]).length = σ.length + 1 := by simp
  cases c : okCh m
  · rw [c] at hv
    simp [-callN, -callT] at hv
    refine go_spec_l03Told (by simp) ?_
    simp [-callN, -callT, ac_spec_l03Told, hv, g, hb, setCells]
    done
  · rw [c] at hv
    simp [-callN, -callT] at hv
    refine go_spec_l03Told (by simp) ?_
    simp [-callN, -callT, ac_spec_l03Told, hv, g, hb, setCells]
    done
theorem ty_zChV : PV.ty (Own.sh GChoices) zChV = Enc.pv zCh0 := rfl
set_option maxHeartbeats 8000000 in
theorem spC_EitherChoices (a : GChoices) (ha : Siz.size a ≤ 1048576) (b : GChoices) (hb : Siz.size b ≤ 1048576) :
    ∃ q, ev fns i_spec_EitherChoices [a.v, b.v] [] = some (.tup [q, i64 (eiA a b).2], []) ∧ q.bel 0 = true ∧ PV.ty (Own.sh GChoices) q = Enc.pv (eiA a b).1 := by
  have hv1 := ev_spec_l03Ok a ha
  have hv2 := ev_spec_l03Ok b hb
  unfold eiA
  cases c1 : okCh a
  · rw [c1] at hv1
    simp at hv1
    refine ⟨zChV, go_spec_EitherChoices (by simp) ?_, rfl, ty_zChV⟩
    simp [ac_spec_EitherChoices, hv1, setCells]
    done
  rw [c1] at hv1
  cases c2 : okCh b
  · rw [c2] at hv2
    simp at hv1 hv2
    refine ⟨zChV, go_spec_EitherChoices (by simp) ?_, rfl, ty_zChV⟩
    simp [ac_spec_EitherChoices, hv1, hv2, setCells]
    done
  rw [c2] at hv2
  obtain ⟨A, hA⟩ := okCh_sh c1
  obtain ⟨B, hB⟩ := okCh_sh c2
  have eA := hA.st
  have eB := hB.st
  have nA := hA.n
  have nB := hB.n
  have sA := hA.s.1
  have sB := hB.s.1
  obtain ⟨u, σ1, k1, o1⟩ := ev_sp_first hA.y (A + B) B rfl (by omega)
  obtain ⟨σ2, k2, o2⟩ := ev_sp_second hB.y (by omega) (A + B) A 0 (by omega) (by omega) a.accept.length (by omega) (by simp [raiL, eiC3, eiB3, eiI3]; omega) o1
  obtain ⟨j1, y1, j2, y2, j3, y3, j4, y4, j5, y5, ids, hc, ow, i0, i1⟩ := o2.own (by simp [raiL, eiC3, eiB3, eiI3]; omega)
  have hO : (⟨((A + B : Nat) : Int), raiL a.starts 0 ++ raiL b.starts a.accept.length, a.accept ++ b.accept, eiC3 a 0 0 a.accept.length ++ eiC3 b a.accept.length A b.accept.length, eiB3 a A (A + B) 0 0 a.accept.length ++ eiB3 b B (A + B) A a.accept.length b.accept.length, eiI3 a 0 a.accept.length ++ eiI3 b a.accept.length b.accept.length⟩ : GChoices) = eiO a b := by
    have e1 : a.stack.toNat = A := by omega
    have e2 : b.stack.toNat = B := by omega
    unfold eiO; rw [e1, e2]
  rw [hO] at ow
  have hL := ev_spec_l03Told ow o2.g (by have := size_eiO hA hB; omega)
  have z0 := o2.z
  have g2 := o2.g
  have n2 := o2.n
  have hw : IntKind.i64.wrap ((A : Int) + B) = (A : Int) + B := wrap_i64 (by omega)
  have z1 := o1.z
  have hl0 : 0 < σ2.length := (List.getElem?_eq_some_iff.1 z0).1
  have q0 : ∀ r, (σ2.set 0 r)[0]? = some r := fun r => List.getElem?_set_self hl0
  generalize h1 : (raiL a.starts 0 ++ raiL b.starts (a.accept.length : Int)).length = q1 at *
  generalize h2 : (a.accept ++ b.accept).length = q2 at *
  generalize h3 : (eiC3 a 0 0 a.accept.length ++ eiC3 b a.accept.length A b.accept.length).length = q3 at *
  generalize h4 : (eiB3 a A (A + B) 0 0 a.accept.length ++ eiB3 b B (A + B) A a.accept.length b.accept.length).length = q4 at *
  generalize h5 : (eiI3 a 0 a.accept.length ++ eiI3 b a.accept.length b.accept.length).length = q5 at *
  cases c3 : okCh (eiO a b)
  · rw [c3] at hL
    refine ⟨zChV, go_spec_EitherChoices (by simp) ?_, rfl, by simpa using ty_zChV⟩
    simp [ChP, eA.1, eB.1] at hv1 hv2 k1 k2 hc hL z0 z1
    simp [ac_spec_EitherChoices, hv1, hv2, eA.1, eB.1, hw, k1, k2, hc, hL, z0, z1, q0, setCells]
    done
  · rw [c3] at hL
    have K := Keep.set σ2 0 (.row 6 [.agg [i64 ((A + B : Nat) : Int), .own j1 y1 0 q1, .own j2 y2 0 q2, .own j3 y3 0 q3, .own j4 y4 0 q4, .own j5 y5 0 q5]] 0)
    have gg : Good (σ2.set 0 (.row 6 [.agg [i64 ((A + B : Nat) : Int), .own j1 y1 0 q1, .own j2 y2 0 q2, .own j3 y3 0 q3, .own j4 y4 0 q4, .own j5 y5 0 q5]] 0)) := Good.set g2 _ _ _ (by simp only [PV.bels, Bool.and_true]; exact ow.bel)
    have ob := ow.bel
    obtain ⟨q, d, y⟩ := Own.read (K.own ow (fun i hi hj => by simp at hj; subst hj; exact i0 hi)).own 8 (by decide)
    have hq := dfr_bel d
    have dd : dfr (σ2.set 0 (.row 6 [.agg [i64 ((A + B : Nat) : Int), .own j1 y1 0 q1, .own j2 y2 0 q2, .own j3 y3 0 q3, .own j4 y4 0 q4, .own j5 y5 0 q5]] 0)) 9 (.tup [.agg [i64 ((A + B : Nat) : Int), .own j1 y1 0 q1, .own j2 y2 0 q2, .own j3 y3 0 q3, .own j4 y4 0 q4, .own j5 y5 0 q5], i64 0]) = some (.tup [q, i64 0]) := by
      rw [show ∀ τ ps, dfr τ 9 (.tup ps) = (mapO (dfr τ 8) ps).map .tup from fun _ _ => rfl]
      simp only [mapO, d, show ∀ τ v, dfr τ 8 (.val v) = some (.val v) from fun _ _ => rfl, Option.map_some]
    refine ⟨q, go_spec_EitherChoices (by simp) ?_, hq, by simpa using y⟩
    unfold Good at gg
    clear K ow o1 o2 hO d n2
    simp [-dfr, ChP, eA.1, eB.1] at hv1 hv2 k1 k2 hc hL z0 z1 dd gg ob
    simp [-dfr, ac_spec_EitherChoices, hv1, hv2, eA.1, eB.1, hw, k1, k2, hc, hL, z0, z1, q0, dd, gg, ob, setCells]
    done
end Go.Proofs.Ytlolldjkahkbfaa
