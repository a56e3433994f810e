/- The checker without the states to which nothing leads: the program. -/
import Derived.Test.YtoliadfdklfmfaaUs4
import Derived.Test.YtoliadfdklfmfaaBuilt
set_option linter.unusedVariables false
set_option linter.unusedSimpArgs false
set_option maxRecDepth 100000
namespace Go.Proofs.Ytoliadfdklfmfaa
open Aw
/-! ### Plain law -/
/-- The number of a state in the list. -/
def trP (L : List Int) (v : Int) : Int := ixOf (fun x => decide (v = x)) L
def trS (L : List Int) (s : Nat) : Nat := (L.getD s 0).toNat
def trA (c : GChecker) (L : List Int) (s : Nat) : Bool := c.accept.getD (trS L s) false
def trC (c : GChecker) (L : List Int) (s k : Nat) : GPush := ⟨trP L ((c.call.getD (trS L s) []).getD k ⟨0, 0⟩).to, ((c.call.getD (trS L s) []).getD k ⟨0, 0⟩).put⟩
def trB (c : GChecker) (L : List Int) (s k m : Nat) : Int := trP L (((c.ret.getD (trS L s) []).getD k []).getD m 0)
def trI (c : GChecker) (L : List Int) (s k : Nat) : Int := trP L ((c.inner.getD (trS L s) []).getD k 0)
/-- States of the checker. -/
structure TrL (c : GChecker) (L : List Int) : Prop where
  mem : ∀ x ∈ L, 0 ≤ x ∧ x < c.accept.length
  len : L.length ≤ 40
theorem usL_tr {c : GChecker} (hok : okCk c = true) : TrL c (usL c) := by
  refine ⟨fun x hx => rch_in hok ((usL_mem hok x).1 hx), ?_⟩
  have g1 := (okCk_len hok).1
  simp only [inR, Bool.and_eq_true, decide_eq_true_eq] at g1
  have := usL_len c
  omega
theorem tr_at {c : GChecker} (hok : okCk c = true) {L : List Int} (hL : TrL c L) {s : Nat} (hs : s < L.length) :
    ∃ (m : Nat) (h1 : m < c.call.length) (h2 : m < c.ret.length) (h3 : m < c.inner.length) (h4 : m < c.accept.length) (p0 p1 : GPush) (q0 q1 : List Int) (i0 i1 : Int), L[s] = m ∧ trS L s = m ∧ c.call[m] = [p0, p1] ∧ c.ret[m] = [q0, q1] ∧ c.inner[m] = [i0, i1] ∧ (q0.length : Int) = c.stack + 1 ∧ (q1.length : Int) = c.stack + 1 ∧
      trA c L s = c.accept[m] ∧ trC c L s 0 = ⟨trP L p0.to, p0.put⟩ ∧ trC c L s 1 = ⟨trP L p1.to, p1.put⟩ ∧ (∀ j (h : j < q0.length), trB c L s 0 j = trP L q0[j]) ∧ (∀ j (h : j < q1.length), trB c L s 1 j = trP L q1[j]) ∧ trI c L s 0 = trP L i0 ∧ trI c L s 1 = trP L i1 := by
  have hm := hL.mem _ (List.getElem_mem hs)
  obtain ⟨m, h1, h2, h3, h4, p0, p1, q0, q1, i0, i1, es, e1, e2, e3, k1, k2, k3, k4, k5, k6⟩ := ck_at hok (s := L[s]) (by simp only [inR, Bool.and_eq_true, decide_eq_true_eq]; omega)
  have eS : trS L s = m := by unfold trS; rw [List.getD_eq_getElem?_getD, List.getElem?_eq_getElem hs]; simp [es]
  simp only [okSts, Bool.and_eq_true, decide_eq_true_eq] at k3 k4
  refine ⟨m, h1, h2, h3, h4, p0, p1, q0, q1, i0, i1, es, eS, e1, e2, e3, k3.1, k4.1, ?_, ?_, ?_, ?_, ?_, ?_, ?_⟩
  · unfold trA; rw [eS, List.getD_eq_getElem?_getD, List.getElem?_eq_getElem h4]; rfl
  · unfold trC; rw [eS]; simp [List.getD_eq_getElem?_getD, List.getElem?_eq_getElem h1, e1]
  · unfold trC; rw [eS]; simp [List.getD_eq_getElem?_getD, List.getElem?_eq_getElem h1, e1]
  · intro j h; unfold trB; rw [eS]; simp [List.getD_eq_getElem?_getD, List.getElem?_eq_getElem h2, e2, List.getElem?_eq_getElem h]
  · intro j h; unfold trB; rw [eS]; simp [List.getD_eq_getElem?_getD, List.getElem?_eq_getElem h2, e2, List.getElem?_eq_getElem h]
  · unfold trI; rw [eS]; simp [List.getD_eq_getElem?_getD, List.getElem?_eq_getElem h3, e3]
  · unfold trI; rw [eS]; simp [List.getD_eq_getElem?_getD, List.getElem?_eq_getElem h3, e3]
/-! ### The program's closures -/
theorem ev_tr1 (L : List Int) (v : Int) (hl : L.length ≤ 40) : ev fns i_impl_TrimChecker_1 [i64 v, .fptr [lst 1 L] 0] [] = some (i64 (trP L v), []) := by
  refine go_impl_TrimChecker_1 (by simp) ?_
  have h := ev_IndexU L v (by omega)
  simp at h
  simp [ac_impl_TrimChecker_1, h, trP]
abbrev trF (L : List Int) : PV := .fptr [.fn i_impl_TrimChecker_1 [.fptr [lst 1 L] 0]] 0
theorem ev_tr2 {c : GChecker} (hok : okCk c = true) {L : List Int} (hL : TrL c L) (s : Nat) (hs : s < L.length) : ev fns i_impl_TrimChecker_2 [i64 s, CkP c, .fptr [lst 1 L] 0] [] = some (bol (trA c L s), []) := by
  obtain ⟨m, h1, h2, h3, h4, p0, p1, q0, q1, i0, i1, es, eS, e1, e2, e3, n0, n1, a, c0, c1, b0, b1, j0, j1⟩ := tr_at hok hL hs
  refine go_impl_TrimChecker_2 (by simp) ?_
  rw [a]
  simp [ac_impl_TrimChecker_2, hs, es, h4]
theorem ev_tr3 {c : GChecker} (hok : okCk c = true) {L : List Int} (hL : TrL c L) (s k : Nat) (hs : s < L.length) (hk : k < 2) : ev fns i_impl_TrimChecker_3 [i64 s, i64 k, CkP c, .fptr [lst 1 L] 0, trF L] [] = some ((trC c L s k).v, []) := by
  obtain ⟨m, h1, h2, h3, h4, p0, p1, q0, q1, i0, i1, es, eS, e1, e2, e3, n0, n1, a, c0, c1, b0, b1, j0, j1⟩ := tr_at hok hL hs
  refine go_impl_TrimChecker_3 (by simp) ?_
  have t0 := ev_tr1 L p0.to hL.len
  have t1 := ev_tr1 L p1.to hL.len
  simp at t0 t1
  have hk' : k = 0 ∨ k = 1 := by omega
  rcases hk' with rfl | rfl
  · rw [c0]
    simp [ac_impl_TrimChecker_3, hs, es, h1, e1, t0, setCells]
  · rw [c1]
    simp [ac_impl_TrimChecker_3, hs, es, h1, e1, t1, setCells]
theorem ev_tr4 {c : GChecker} (hok : okCk c = true) {L : List Int} (hL : TrL c L) (s k j : Nat) (hs : s < L.length) (hk : k < 2) (hj : (j : Int) ≤ c.stack) : ev fns i_impl_TrimChecker_4 [i64 s, i64 k, i64 j, trF L, CkP c, .fptr [lst 1 L] 0] [] = some (i64 (trB c L s k j), []) := by
  obtain ⟨m, h1, h2, h3, h4, p0, p1, q0, q1, i0, i1, es, eS, e1, e2, e3, n0, n1, a, c0, c1, b0, b1, j0, j1⟩ := tr_at hok hL hs
  refine go_impl_TrimChecker_4 (by simp) ?_
  have l0 : j < q0.length := by omega
  have l1 : j < q1.length := by omega
  have t0 := ev_tr1 L q0[j] hL.len
  have t1 := ev_tr1 L q1[j] hL.len
  simp at t0 t1
  have hk' : k = 0 ∨ k = 1 := by omega
  rcases hk' with rfl | rfl
  · rw [b0 j l0]
    simp [ac_impl_TrimChecker_4, hs, es, h2, e2, t0, l0]
  · rw [b1 j l1]
    simp [ac_impl_TrimChecker_4, hs, es, h2, e2, t1, l1]
theorem ev_tr5 {c : GChecker} (hok : okCk c = true) {L : List Int} (hL : TrL c L) (s k : Nat) (hs : s < L.length) (hk : k < 2) : ev fns i_impl_TrimChecker_5 [i64 s, i64 k, trF L, CkP c, .fptr [lst 1 L] 0] [] = some (i64 (trI c L s k), []) := by
  obtain ⟨m, h1, h2, h3, h4, p0, p1, q0, q1, i0, i1, es, eS, e1, e2, e3, n0, n1, a, c0, c1, b0, b1, j0, j1⟩ := tr_at hok hL hs
  refine go_impl_TrimChecker_5 (by simp) ?_
  have t0 := ev_tr1 L i0 hL.len
  have t1 := ev_tr1 L i1 hL.len
  simp at t0 t1
  have hk' : k = 0 ∨ k = 1 := by omega
  rcases hk' with rfl | rfl
  · rw [j0]
    simp [ac_impl_TrimChecker_5, hs, es, h3, e3, t0]
  · rw [j1]
    simp [ac_impl_TrimChecker_5, hs, es, h3, e3, t1]
end Go.Proofs.Ytoliadfdklfmfaa

set_option linter.unusedVariables false
set_option linter.unusedSimpArgs false
set_option maxRecDepth 100000
namespace Go.Proofs.Ytoliadfdklfmfaa
open Aw
/-- What TrimChecker answers. -/
def tkOf (c : GChecker) (L : List Int) : GChecker := bltCk L.length c.stack.toNat (trP L c.start) (trA c L) (trC c L) (trB c L) (trI c L)
noncomputable def tkX (c : GChecker) : GChecker := if okCk c then tkOf c (usL c) else ⟨0, 0, [], [], [], []⟩
def tkK (c : GChecker) : Int := if okCk c then 0 else 1
theorem own_tk0 (σ : List AObj) : OwnIn σ [] (.agg [i64 0, i64 0, .val (.slice none 0 0), .val (.slice none 0 0), .val (.slice none 0 0), .val (.slice none 0 0)]) (⟨0, 0, [], [], [], []⟩ : GChecker) := by
  refine ⟨own_Checker.2 ⟨[], _, [], _, [], _, [], _, [], _, [], _, rfl, rfl, ⟨rfl, rfl⟩, ⟨rfl, rfl⟩, ?_, ?_, ?_, ?_⟩, by simp, by simp⟩
  all_goals exact .inl ⟨rfl, rfl, rfl⟩
theorem usL_pos {c : GChecker} (hok : okCk c = true) : 0 < (usL c).length := List.length_pos_of_mem ((usL_mem hok _).2 (.start : Rch c c.start))
set_option maxHeartbeats 8000000 in
theorem imC_TrimChecker (c : GChecker) (hz : Siz.size c ≤ 1048576) : ∃ p τ ids, ev fns i_impl_TrimChecker [c.v] [] = some (.tup [p, i64 (tkK c)], τ) ∧ OwnIn τ ids p (tkX c) ∧ GoodN τ := by
  have hv := ev_impl_ValidChecker c hz
  unfold tkK tkX
  cases c1 : okCk c
  · rw [c1] at hv
    simp at hv
    refine ⟨_, [], [], go_impl_TrimChecker (by simp) ?_, own_tk0 _, GoodN.nil⟩
    simp [ac_impl_TrimChecker, hv, setCells]
    done
  · rw [c1] at hv
    have hu := ev_impl_used c c1
    have hL := usL_tr c1
    have hpos := usL_pos c1
    have hlen := hL.len
    have g2 := (okCk_len c1).2.1
    simp only [inR, Bool.and_eq_true, decide_eq_true_eq] at g2
    generalize usL c = L at *
    obtain ⟨S, hS⟩ : ∃ S : Nat, c.stack = (S : Int) := ⟨c.stack.toNat, by omega⟩
    have hat := ev_tr1 L c.start hL.len
    obtain ⟨p, τ, ids, hb, ho, hg⟩ := ev_impl_built (trA c L) (trC c L) (trB c L) (trI c L) (.fn i_impl_TrimChecker_2 [CkP c, .fptr [lst 1 L] 0]) (.fn i_impl_TrimChecker_3 [CkP c, .fptr [lst 1 L] 0, trF L]) (.fn i_impl_TrimChecker_4 [trF L, CkP c, .fptr [lst 1 L] 0]) (.fn i_impl_TrimChecker_5 [trF L, CkP c, .fptr [lst 1 L] 0])
      (by simp [PV.bels, PV.bel]) L.length S (by omega) (by omega) (trP L c.start)
      (fun σ s hs => by have h := ev_tr2 c1 hL s hs; simp at h; simp [h])
      (fun σ s k hs hk => by have h := ev_tr3 c1 hL s k hs hk; simp at h; simp [h])
      (fun σ s k m hs hk hm => by have h := ev_tr4 c1 hL s k m hs hk (by omega); simp at h; simp [h])
      (fun σ s k hs hk => by have h := ev_tr5 c1 hL s k hs hk; simp at h; simp [h])
    obtain ⟨p', σ', ids', hbe, o', hfr, g', e', n'⟩ := made_in (σ := [.row 6 [zCk] 0, .row 1 (L.map Enc.pv) 0, .row 1 [.own 1 0 0 L.length] 0, .row 1 [.fn i_impl_TrimChecker_1 [.ptr 2 0 0 0]] 0]) (js := []) ho hg (by
        simp only [Gud, objsBel, PV.bels, PV.bel, bels_map, Bool.and_true, Bool.true_and, List.length_cons]; simp) (by
      refine GoodN.nlX ⟨by simp only [Gud, objsBel, PV.bels, PV.bel, bels_map, Bool.and_true, Bool.true_and, List.length_cons]; simp, ?_⟩
      simp only [List.all_cons, List.all_nil, Bool.and_true, AObj.nl, PV.nls, PV.nl, Bool.true_and]
      rw [PV.nls_iff]
      intro p hp
      obtain ⟨y, _, rfl⟩ := List.mem_map.1 hp
      simp [PV.nl])
    have e0 := e'.get (j := 0) (r := .row 6 [zCk] 0) rfl
    have ow := o'.own
    have ob := o'.bel
    have onl := Own.nl ow
    obtain ⟨i0, p0, i1, p1, i2, p2, i3, p3, i4, p4, i5, p5, _, hp, ⟨_, hp0⟩, ⟨_, hp1⟩, h2, h3, h4, h5⟩ := own_Checker.1 ow
    subst hp0 hp1
    have nb : PV.bel 0 p2 = false := by
      rcases h2 with ⟨e1, e2, e3⟩ | ⟨id, v, es, is, e1, e2, e3, e4, e5⟩
      · exfalso
        first
        | (have := congrArg List.length e1; simp only [bltCk, List.length_map, List.length_range, List.length_nil] at this; omega)
        | (have := congrArg List.length e2; simp only [bltCk, List.length_map, List.length_range, List.length_nil] at this; omega)
        | (have := congrArg List.length e3; simp only [bltCk, List.length_map, List.length_range, List.length_nil] at this; omega)
      · first
        | (rw [e1]; simp [PV.bel]; done)
        | (rw [e4]; simp [PV.bel]; done)
    have kn2 := (own_one h2).2
    have kn3 := (own_one h3).2
    have kn4 := (own_one h4).2
    have kn5 := (own_one h5).2
    have K := Keep.set σ' 0 (.row 6 [p'] 0)
    have hl0 : 0 < σ'.length := (List.getElem?_eq_some_iff.1 e0).1
    have gg : Gud (σ'.set 0 (.row 6 [p'] 0)) := Gud.set g' _ _ _ (by simp only [PV.bels, Bool.and_true]; exact ob)
    have hX : tkOf c L = bltCk L.length S (trP L c.start) (trA c L) (trC c L) (trB c L) (trI c L) := by unfold tkOf; rw [hS]; rfl
    rw [if_pos rfl, if_pos rfl, hX]
    refine ⟨p', σ'.set 0 (.row 6 [p'] 0), ids', go_impl_TrimChecker (by simp) ?_, ?_, ?_⟩
    · have q0 : ∀ r, (σ'.set 0 r)[0]? = some r := fun r => List.getElem?_set_self hl0
      unfold Gud at gg
      have pn := Own.nl ho.own
      have tn := hg.2
      rw [hp] at hbe ob gg ⊢
      rw [← hS] at hb
      simp at hb hv hu hbe e0 q0 gg ob pn tn kn2 kn3 kn4 kn5 hat
      simp [ac_impl_TrimChecker, hv, hu, hat, show L.length ≤ 140737488355328 by omega, pn, eq_true tn, hb, hbe, e0, q0, gg, ob, nb, kn2, kn3, kn4, kn5, setCells]
      done
    · exact K.own o' (fun i hi hj => by simp at hj; have := hfr i hi; simp at this; omega)
    · exact (n'.set 0 (row_nl (by simp only [PV.nls, Bool.and_true]; exact onl))).good gg
end Go.Proofs.Ytoliadfdklfmfaa
