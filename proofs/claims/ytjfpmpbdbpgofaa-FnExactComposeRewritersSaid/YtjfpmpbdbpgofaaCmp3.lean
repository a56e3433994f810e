/- Rewriters composed: the program's ComposeRewriters, run. -/
import Derived.Test.YtjfpmpbdbpgofaaCmp2
set_option linter.unusedVariables false
set_option linter.unusedSimpArgs false
set_option maxRecDepth 100000
namespace Go.Proofs.Ytjfpmpbdbpgofaa
open Aw
set_option maxHeartbeats 16000000 in
theorem imC_ComposeRewriters (r : GRewriter) (hr : Siz.size r ≤ 1048576) (s : GRewriter) (hs : Siz.size s ≤ 1048576) :
    ∃ p τ ids, ev fns i_impl_ComposeRewriters [r.v, s.v] [] = some (.tup [p, i64 (cmA r s).2], τ) ∧ OwnIn τ ids p (cmA r s).1 ∧ GoodN τ := by
  have hv1 := ev_impl_ValidRewriter r hr
  have hv2 := ev_impl_ValidRewriter s hs
  have hz1 := ev_size_OPS r.call
  have hz2 := ev_size_OPS s.call
  unfold cmA
  cases c1 : okRw r
  · rw [c1] at hv1
    simp at hv1 hz1 hz2
    refine ⟨_, [], [], go_impl_ComposeRewriters (by simp) ?_, own_zRw0 _, GoodN.nil⟩
    simp [ac_impl_ComposeRewriters, hv1, hz1, hz2, setCells]
    done
  rw [c1] at hv1
  cases c2 : okRw s
  · rw [c2] at hv2
    simp at hv1 hv2 hz1 hz2
    refine ⟨_, [], [], go_impl_ComposeRewriters (by simp) ?_, own_zRw0 _, GoodN.nil⟩
    simp [ac_impl_ComposeRewriters, hv1, hv2, hz1, hz2, setCells]
    done
  rw [c2] at hv2
  have hst := ev_impl_isStructural r hr c1
  cases c3 : strRw r
  · rw [c3] at hst
    simp at hv1 hv2 hz1 hz2 hst
    refine ⟨_, [], [], go_impl_ComposeRewriters (by simp) ?_, own_zRw0 _, GoodN.nil⟩
    simp [ac_impl_ComposeRewriters, hv1, hv2, hz1, hz2, hst, setCells]
    done
  rw [c3] at hst
  have h : CmI r s := ⟨c1, c2, c3⟩
  obtain ⟨b1, b2, b3, b4, b5, b6⟩ := cm_bounds h
  obtain ⟨g1, g2, g3, -, -⟩ := okRw_len c2
  obtain ⟨q1, q2, q3, -, -⟩ := okRw_len c1
  simp only [inR, Bool.and_eq_true, decide_eq_true_eq] at g1 g2 g3 q1 q2 q3
  have w1 := wrap_i64 (n := (r.call.length : Int) * (s.call.length : Int)) (by omega)
  have w2 := wrap_i64 (n := r.stack * s.stack) (by omega)
  have m1 : 0 ≤ r.start * (s.call.length : Int) ∧ r.start * (s.call.length : Int) ≤ 64 := by
    refine ⟨Int.mul_nonneg q3.1 (by omega), ?_⟩
    exact Int.le_trans (Int.mul_le_mul (show r.start ≤ 8 by omega) (show (s.call.length : Int) ≤ 8 by omega) (by omega) (by omega)) (by omega)
  have w3 := wrap_i64 (n := r.start * (s.call.length : Int)) (by omega)
  have w4 := wrap_i64 (n := r.start * (s.call.length : Int) + s.start) (by omega)
  by_cases d1 : (r.call.length : Int) * (s.call.length : Int) ≤ 8
  · by_cases d2 : r.stack * s.stack ≤ 8
    · obtain ⟨p, τ, ids, hb, ho, hg⟩ := ev_impl_builtRewriter (cmC r s) (cmB r s) (cmI r s) (.fn i_impl_ComposeRewriters_1 [RwF r, .fptr [i64 s.call.length] 0, RwF s, .fptr [i64 s.stack] 0]) (.fn i_impl_ComposeRewriters_2 [RwF r, .fptr [i64 s.stack] 0, .fptr [i64 s.call.length] 0, RwF s]) (.fn i_impl_ComposeRewriters_3 [RwF r, .fptr [i64 s.call.length] 0, RwF s])
        (by simp [PV.bels, PV.bel]) (cmN r s) (cmM r s) (by omega) (by omega) (r.start * s.call.length + s.start)
        (fun σ z k hz hk => by have h := ev_cmC h z k hz hk; simp at h; simp [h])
        (fun σ z k m hz hk hm => by have h := ev_cmB h z k m hz hk hm; simp at h; simp [h])
        (fun σ z k hz hk => by have h := ev_cmI h z k hz hk; simp at h; simp [h])
      rw [b5, b6] at hb
      obtain ⟨p', σ', ids', hbe, o', hfr, g', e', n'⟩ := made_in (σ := [AObj.row 5 [zRwB] 0, .row 1 [i64 s.call.length] 0, .row 1 [i64 s.stack] 0]) (js := []) ho hg (by simp [Good, objsBel, PV.bels, PV.bel]) (by
        refine GoodN.nlX ⟨by simp [Good, objsBel, PV.bels, PV.bel], by simp [AObj.nl, PV.nls, PV.nl]⟩)
      have e0 := e'.get (j := 0) (r := AObj.row 5 [zRwB] 0) rfl
      have l1 := e'.get (j := 1) (r := AObj.row 1 [i64 s.call.length] 0) rfl
      have l2 := e'.get (j := 2) (r := AObj.row 1 [i64 s.stack] 0) rfl
      have hl1 : 1 < σ'.length := (List.getElem?_eq_some_iff.1 l1).1
      have hl2 : 2 < σ'.length := (List.getElem?_eq_some_iff.1 l2).1
      have l1' : ∀ a : AObj, (σ' ++ [a])[1]? = some (AObj.row 1 [i64 s.call.length] 0) := fun a => by rw [List.getElem?_append_left hl1]; exact l1
      have l2' : ∀ a : AObj, (σ' ++ [a])[2]? = some (AObj.row 1 [i64 s.stack] 0) := fun a => by rw [List.getElem?_append_left hl2]; exact l2
      have ow := o'.own
      have ob := o'.bel
      have onl := Own.nl ow
      have hx : bltRw (cmN r s) (cmM r s) (r.start * s.call.length + s.start) (cmC r s) (cmB r s) (cmI r s) = cmX r s := rfl
      rw [hx] at ow o' ho
      obtain ⟨i0, p0, i1, p1, i2, p2, i3, p3, i4, p4, _, hp, ⟨_, hp0⟩, ⟨_, hp1⟩, h2, h3, h4⟩ := own_Rewriter.1 ow
      subst hp0 hp1
      obtain ⟨x2, x3, x4⟩ := exa_cm h
      have nb : PV.bel 0 p2 = false := by
        rcases h2 with ⟨e1, e2⟩ | ⟨id, v, es, is, e1, e2, e3, e4, e5⟩
        · exfalso
          have := congrArg List.length e1; simp [cmX, bltRw] at this; omega
        · rw [e1]; simp [PV.bel]
      have kn2 := (own_one h2).2
      have kn3 := (own_one h3).2
      have kn4 := (own_one h4).2
      have hl0 : 0 < σ'.length := (List.getElem?_eq_some_iff.1 e0).1
      -- behind the variable
      have E1 : Ext σ' (σ' ++ [AObj.row 5 [p'] 0]) := Ext.snoc _ _
      have o1 := E1.own o'
      have y2 := x2 (σ' ++ [AObj.row 5 [p'] 0]) i2 p2 (Own.frame h2 fun i hi => List.getElem?_append_left (o'.lt i (by grind)))
      have y3 := x3 (σ' ++ [AObj.row 5 [p'] 0]) i3 p3 (Own.frame h3 fun i hi => List.getElem?_append_left (o'.lt i (by grind)))
      have y4 := x4 (σ' ++ [AObj.row 5 [p'] 0]) i4 p4 (Own.frame h4 fun i hi => List.getElem?_append_left (o'.lt i (by grind)))
      have g1' : Good (σ' ++ [AObj.row 5 [p'] 0]) := Good.snoc g' (by simp only [PV.bels, Bool.and_true]; exact ob)
      have n1' : Nl [] (σ' ++ [AObj.row 5 [p'] 0]) := n'.app (by simp only [List.all_cons, List.all_nil, Bool.and_true]; exact row_nl (by simp only [PV.nls, Bool.and_true]; exact onl))
      have hvX := ev_impl_ValidRewriter (cmX r s) (cmX_size h)
      have q0 : ∀ r, (σ'.set 0 r ++ [AObj.row 5 [p'] 0])[0]? = some r := fun r => by rw [List.getElem?_append_left (by simpa using hl0)]; exact List.getElem?_set_self hl0
      have e0' : ∀ a : AObj, (σ' ++ [a])[0]? = some (AObj.row 5 [zRwB] 0) := fun a => by rw [List.getElem?_append_left hl0]; exact e0
      have pn := Own.nl ho.own
      have tn := hg.2
      have xst : (cmX r s).stack = r.stack * s.stack := by rw [← b6]; rfl
      have xsr : (cmX r s).start = r.start * s.call.length + s.start := rfl
      have d1' : ¬ (8 : Int) < (r.call.length : Int) * (s.call.length : Int) := by omega
      have d2' : ¬ (8 : Int) < r.stack * s.stack := by omega
      have K := Keep.set (σ' ++ [AObj.row 5 [p'] 0]) 0 (AObj.row 5 [p'] 0)
      have bz : PV.bel (σ' ++ [AObj.row 5 [p'] 0]).length p' = true := o1.bel
      have gg : Good ((σ' ++ [AObj.row 5 [p'] 0]).set 0 (AObj.row 5 [p'] 0)) := Good.set g1' _ _ _ (by simp only [PV.bels, Bool.and_true]; exact bz)
      have set0 : ∀ a : AObj, (σ' ++ [AObj.row 5 [p'] 0]).set 0 a = σ'.set 0 a ++ [AObj.row 5 [p'] 0] := fun a => by rw [List.set_append_left _ _ hl0]
      cases c4 : okRw (cmX r s)
      · rw [c4] at hvX
        refine ⟨zRwB, [], [], go_impl_ComposeRewriters (by simp) ?_, own_zRw0 _, GoodN.nil⟩
        · have gz : Good ((σ' ++ [AObj.row 5 [p'] 0]).set 0 (AObj.row 5 [zRwB] 0)) := Good.set g1' _ _ _ (by simp [PV.bels, PV.bel])
          rw [set0] at gz
          unfold Good at gz g'
          rw [hp] at hbe ob y2 y3 y4 gz set0
          simp at hb hv1 hv2 hz1 hz2 hst hbe e0 e0' l1 l2 l1' l2' ob pn tn kn2 kn3 kn4 y2 y3 y4 hvX gz
          simp [ac_impl_ComposeRewriters, hv1, hv2, hz1, hz2, hst, w1, w2, w3, w4, d1', d2', pn, eq_true tn, hb, hbe, e0, e0', l1, l2, l1', l2', ob, nb, kn2, kn3, kn4, y2, y3, y4, hvX, gz, set0, hl0, dfr, mapO, setCells]
          refine (if_pos ?_).trans ?_
          · simp [e0, e0', l1, l2, l1', l2']
            done
          rfl
      · rw [c4] at hvX
        refine ⟨p', σ'.set 0 (AObj.row 5 [p'] 0) ++ [AObj.row 5 [p'] 0], ids', go_impl_ComposeRewriters (by simp) ?_, ?_, ?_⟩
        · rw [set0] at gg
          unfold Good at gg g'
          have ob1 : PV.bel (σ'.length + 1) p' = true := by simpa using bz
          rw [hp] at hbe ob ob1 y2 y3 y4 gg set0 q0 ⊢
          simp at hb hv1 hv2 hz1 hz2 hst hbe e0 e0' l1 l2 l1' l2' q0 ob ob1 pn tn kn2 kn3 kn4 y2 y3 y4 hvX gg
          simp [ac_impl_ComposeRewriters, hv1, hv2, hz1, hz2, hst, w1, w2, w3, w4, d1', d2', pn, eq_true tn, hb, hbe, e0, e0', l1, l2, l1', l2', q0, ob, nb, kn2, kn3, kn4, y2, y3, y4, hvX, gg, set0, hl0, dfr, mapO, setCells]
          refine (if_pos ?_).trans ?_
          · simp [e0, e0', l1, l2, l1', l2']
            done
          simp [ob1]
          done
        · have := K.own o1 (fun i hi hj => by simp at hj; have := hfr i hi; simp at this; omega)
          rwa [set0] at this
        · have := (n1'.set 0 (r := AObj.row 5 [p'] 0) (row_nl (by simp only [PV.nls, Bool.and_true]; exact onl))).good gg
          rwa [set0] at this
    · have hno : okRw (cmX r s) = false := by
        cases hh : okRw (cmX r s) with
        | false => rfl
        | true => have := cmX_ok hh; omega
      simp at hv1 hv2 hz1 hz2 hst
      refine ⟨_, [], [], go_impl_ComposeRewriters (by simp) ?_, by simp [hno]; exact own_zRw0 _, GoodN.nil⟩
      simp [ac_impl_ComposeRewriters, hv1, hv2, hz1, hz2, hst, w1, w2, show ¬ (8 : Int) < (r.call.length : Int) * (s.call.length : Int) by omega, show (8 : Int) < r.stack * s.stack by omega, hno, setCells]
      done
  · have hno : okRw (cmX r s) = false := by
      cases hh : okRw (cmX r s) with
      | false => rfl
      | true => have := cmX_ok hh; omega
    simp at hv1 hv2 hz1 hz2 hst
    refine ⟨_, [], [], go_impl_ComposeRewriters (by simp) ?_, by simp [hno]; exact own_zRw0 _, GoodN.nil⟩
    simp [ac_impl_ComposeRewriters, hv1, hv2, hz1, hz2, hst, w1, show (8 : Int) < (r.call.length : Int) * (s.call.length : Int) by omega, hno, setCells]
    done
end Go.Proofs.Ytjfpmpbdbpgofaa
