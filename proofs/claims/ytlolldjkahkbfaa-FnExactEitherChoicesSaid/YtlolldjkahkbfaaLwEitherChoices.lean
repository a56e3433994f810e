/- The law FnExactEitherChoices, run: out of what the program's function and the reference's return; printed by a program (lw.py). -/
import Derived.Test.YtlolldjkahkbfaaLwC
import Derived.Test.YtlolldjkahkbfaaEiF
import Derived.Test.YtlolldjkahkbfaaEiW
set_option linter.unusedVariables false
set_option linter.unusedSimpArgs false
set_option maxRecDepth 100000
namespace Go.Proofs.Ytlolldjkahkbfaa
open Aw

theorem wl_Choices (x : GChoices) : wChoices x ≤ 4 * Siz.size x + 4 := by
  rw [size_Choices]
  unfold wChoices
  have h0 := (fun y : List Int => (by have := Siz.len_le y; (try dsimp only); omega : (fun xs : List Int => 1 * xs.length) y ≤ 4 * Siz.size y)) x.starts
  have h1 := (fun y : List Bool => (by have := Siz.len_le y; (try dsimp only); omega : (fun xs : List Bool => 1 * xs.length) y ≤ 4 * Siz.size y)) x.accept
  have h2 := (sumW_le4 (W := (sumW (fun xs : List GPush => 2 * xs.length))) (fun y => by have := (sumW_le4 (W := (fun xs : List GPush => 2 * xs.length)) (fun y => by have := (fun y : List GPush => (by have := Siz.len_le y; (try dsimp only); omega : (fun xs : List GPush => 2 * xs.length) y ≤ 4 * Siz.size y)) y; (try dsimp only at *); omega)) y; (try dsimp only at *); omega)) x.call
  have h3 := (sumW_le4 (W := (sumW (sumW (fun xs : List Int => 1 * xs.length)))) (fun y => by have := (sumW_le4 (W := (sumW (fun xs : List Int => 1 * xs.length))) (fun y => by have := (sumW_le4 (W := (fun xs : List Int => 1 * xs.length)) (fun y => by have := (fun y : List Int => (by have := Siz.len_le y; (try dsimp only); omega : (fun xs : List Int => 1 * xs.length) y ≤ 4 * Siz.size y)) y; (try dsimp only at *); omega)) y; (try dsimp only at *); omega)) y; (try dsimp only at *); omega)) x.ret
  have h4 := (sumW_le4 (W := (sumW (fun xs : List Int => 1 * xs.length))) (fun y => by have := (sumW_le4 (W := (fun xs : List Int => 1 * xs.length)) (fun y => by have := (fun y : List Int => (by have := Siz.len_le y; (try dsimp only); omega : (fun xs : List Int => 1 * xs.length) y ≤ 4 * Siz.size y)) y; (try dsimp only at *); omega)) y; (try dsimp only at *); omega)) x.inner
  (try dsimp only at *)
  omega
@[simp] abbrev sh_Choices : Sh := (.agg [.any, (.lst 1 .any), (.lst 1 .any), (.lst 1 (.lst 1 (.lst 2 .any))), (.lst 1 (.lst 1 (.lst 1 (.lst 1 .any)))), (.lst 1 (.lst 1 (.lst 1 .any)))])
theorem dp_Choices : Own.dep (GChoices) ≤ 9 := by decide
abbrev wq_Choices (x : GChoices) : Nat := wChoices x
abbrev mq_Choices : GChoices → Int → GChoices := mkChoices
theorem wb_Choices (x : GChoices) : wq_Choices x ≤ 4 * Siz.size x + 4 := wl_Choices x
theorem eqq_Choices (x : GChoices) (h : Siz.size x ≤ 1048576) : ev fns i_laws_eqChoices [Enc.pv x, Enc.pv x] [] = some (bol true, []) := by have := ev_laws_eqChoices x x h; simpa using this
theorem mrk_Choices : MarkC (α := GChoices) fns i_laws_markChoices wq_Choices mq_Choices := markC_Choices
theorem hld_Choices : HeldC (α := GChoices) fns i_laws_heldChoices wq_Choices mq_Choices := heldC_Choices
theorem dec_Choices {σ : List AObj} {ids : List Nat} {p : PV} {x : GChoices} (h : OwnIn σ ids p x) : ∃ r1 r2 r3 r4 r5, p = .agg [(i64 x.stack), r1, r2, r3, r4, r5] ∧ r1.one = true ∧ r2.one = true ∧ r3.one = true ∧ r4.one = true ∧ r5.one = true := by
  obtain ⟨i0, r0, i1, r1, i2, r2, i3, r3, i4, r4, i5, r5, _, rfl, ⟨_, rfl⟩, h1, h2, h3, h4, h5⟩ := own_Choices.1 h.own
  exact ⟨r1, r2, r3, r4, r5, by simp, (own_one h1).2.2.2, (own_one h2).2.2.2, (own_one h3).2.2.2, (own_one h4).2.2.2, (own_one h5).2.2.2⟩
theorem dcf_Choices {q : PV} {x : GChoices} (h : PV.ty sh_Choices q = Enc.pv x) : ∃ r1 r2 r3 r4 r5, q = .agg [(i64 x.stack), r1, r2, r3, r4, r5] ∧ dfr [] 9 q = some q ∧ (∀ σ, dfr σ 9 q = some q) ∧ r1.one = true ∧ r2.one = true ∧ r3.one = true ∧ r4.one = true ∧ r5.one = true := by
  obtain ⟨qs, rfl, t0⟩ := ty_agg_inv h
  obtain ⟨r0, qs0, rfl, e0, t1⟩ := tys_cons_inv t0
  obtain ⟨r1, qs1, rfl, e1, t2⟩ := tys_cons_inv t1
  obtain ⟨r2, qs2, rfl, e2, t3⟩ := tys_cons_inv t2
  obtain ⟨r3, qs3, rfl, e3, t4⟩ := tys_cons_inv t3
  obtain ⟨r4, qs4, rfl, e4, t5⟩ := tys_cons_inv t4
  obtain ⟨r5, qs5, rfl, e5, t6⟩ := tys_cons_inv t5
  obtain rfl := tys_nil_inv t6
  replace e0 : r0 = (i64 x.stack) := by simpa using e0
  subst e0
  have k1 := ty_lst_inv e1
  have k2 := ty_lst_inv e2
  have k3 := ty_lst_inv e3
  have k4 := ty_lst_inv e4
  have k5 := ty_lst_inv e5
  have hd : ∀ σ, dfr σ 9 (.agg [(i64 x.stack), r1, r2, r3, r4, r5]) = some (.agg [(i64 x.stack), r1, r2, r3, r4, r5]) := fun σ => by simp [dfr, mapO, k1.2.1, k2.2.1, k3.2.1, k4.2.1, k5.2.1]
  exact ⟨r1, r2, r3, r4, r5, rfl, hd [], hd, k1.1, k2.1, k3.1, k4.1, k5.1⟩
set_option maxHeartbeats 16000000 in
theorem ev_FnExactEitherChoices (a : GChoices) (b : GChoices) (fa : Siz.fits a) (fb : Siz.fits b) : ev fns i_laws_FnExactEitherChoices [a.v, b.v] [] = some (bol true, []) := by
  refine go_laws_FnExactEitherChoices (by simp) ?_
  have ea := ev_laws_szChoices a (1048576) (by omega) (by omega) fa
  by_cases ca : (Siz.size a : Int) ≤ 1048576
  · skip
    rw [szR_ok ca] at ea
    have sa := fun σ => callN_lone (σ := σ) (by simp [PV.bels]) ea (by simp)
    simp [-callN, -callT] at sa
    have eb := ev_laws_szChoices b (1048576 - Siz.size a) (by omega) (by omega) fb
    by_cases cb : (Siz.size b : Int) ≤ 1048576 - Siz.size a
    · skip
      rw [szR_ok cb] at eb
      have sb := fun σ => callN_lone (σ := σ) (by simp [PV.bels]) eb (by simp)
      simp [-callN, -callT] at sb
      have ha : Siz.size a ≤ 1048576 := by omega
      have wba := wb_Choices a
      have hb : Siz.size b ≤ 1048576 := by omega
      have wbb := wb_Choices b
      have hL := leC_EitherChoices a ha b hb
      have wbR := wb_Choices (eiA a b).1
      generalize hX : (eiA a b).1 = X at *
      obtain ⟨Q, eQ, bQ, yQ⟩ := spC_EitherChoices a ha b hb
      rw [hX] at yQ
      obtain ⟨qa, ba, ya, za⟩ := lw_cz toC_Choices a ha dp_Choices (fun r h => by simp [-callN, -callT] at h ⊢; exact h)
      replace ya : PV.ty sh_Choices qa = a.v := ya
      obtain ⟨qb, bb, yb, zb⟩ := lw_cz toC_Choices b hb dp_Choices (fun r h => by simp [-callN, -callT] at h ⊢; exact h)
      replace yb : PV.ty sh_Choices qb = b.v := yb
      have sQ := fun σ => callT_loneT (σ := σ) (fns := fns) (f := i_spec_EitherChoices) (ss := [sh_Choices, sh_Choices]) (args := [qa, qb]) (by simp [PV.bels, ba, bb]) (by simp only [PV.tys, ya, yb]; (try rfl)) eQ (by simp [PV.bels, bQ])
      obtain ⟨v1, v2, v3, v4, v5, hQ, _, dQ, kv1, kv2, kv3, kv4, kv5⟩ := dcf_Choices yQ
      have gQ : Good [AObj.row 6 [Q] 0] := Good.snoc Good.nil (by simp [PV.bels, PV.bel_le (Nat.zero_le _) bQ])
      have lQ : ([AObj.row 6 [Q] 0] : List AObj).length = 1 := rfl
      have uQ : ([AObj.row 6 [Q] 0] : List AObj)[0]? = some (AObj.row 6 [Q] 0) := rfl
      obtain ⟨P1, σ1, ids1, a1, o1, d1, g1, e1⟩ := lw_to toC_Choices a ha ([AObj.row 6 [Q] 0] : List AObj) gQ
      have r1 : ∀ i ∈ ids1, (([AObj.row 6 [Q] 0] : List AObj)).length ≤ i ∧ i < σ1.length := fun i hi => ⟨d1 i hi, o1.lt i hi⟩
      (try simp only [List.length_append, List.length_cons, List.length_nil, Nat.zero_add] at r1)
      replace uQ := e1.get uQ
      have l1 := e1.len
      (try simp only [List.length_append, List.length_cons, List.length_nil, Nat.zero_add] at l1)
      have uQ_1 := uQ
      obtain ⟨w1_1, w1_2, w1_3, w1_4, w1_5, hP1, kw1_1, kw1_2, kw1_3, kw1_4, kw1_5⟩ := dec_Choices o1
      have bb2 := o1.bel
      have g2 : Good (σ1 ++ [AObj.row 6 [P1] 0]) := Good.snoc g1 (by simp only [PV.bels, bb2, Bool.and_true])
      have e2 := Ext.snoc (σ1) (AObj.row 6 [P1] 0)
      replace uQ := e2.get uQ
      replace o1 := e2.own o1
      have l2 := e2.len
      (try simp only [List.length_append, List.length_cons, List.length_nil, Nat.zero_add] at l2)
      have uQ_2 := uQ
      have u2 : (σ1 ++ [AObj.row 6 [P1] 0])[σ1.length]? = some (AObj.row 6 [P1] 0) := by simp
      obtain ⟨P3, σ3, ids3, a3, o3, d3, g3, e3⟩ := lw_to toC_Choices b hb (σ1 ++ [AObj.row 6 [P1] 0]) g2
      have r3 : ∀ i ∈ ids3, ((σ1 ++ [AObj.row 6 [P1] 0])).length ≤ i ∧ i < σ3.length := fun i hi => ⟨d3 i hi, o3.lt i hi⟩
      (try simp only [List.length_append, List.length_cons, List.length_nil, Nat.zero_add] at r3)
      replace uQ := e3.get uQ
      replace o1 := e3.own o1
      replace u2 := e3.get u2
      have l3 := e3.len
      (try simp only [List.length_append, List.length_cons, List.length_nil, Nat.zero_add] at l3)
      have uQ_3 := uQ
      have u2_3 := u2
      obtain ⟨w3_1, w3_2, w3_3, w3_4, w3_5, hP3, kw3_1, kw3_2, kw3_3, kw3_4, kw3_5⟩ := dec_Choices o3
      have bb4 := o3.bel
      have g4 : Good (σ3 ++ [AObj.row 6 [P3] 0]) := Good.snoc g3 (by simp only [PV.bels, bb4, Bool.and_true])
      have e4 := Ext.snoc (σ3) (AObj.row 6 [P3] 0)
      replace uQ := e4.get uQ
      replace o1 := e4.own o1
      replace u2 := e4.get u2
      replace o3 := e4.own o3
      have l4 := e4.len
      (try simp only [List.length_append, List.length_cons, List.length_nil, Nat.zero_add] at l4)
      have uQ_4 := uQ
      have u2_4 := u2
      have u4 : (σ3 ++ [AObj.row 6 [P3] 0])[σ3.length]? = some (AObj.row 6 [P3] 0) := by simp
      obtain ⟨p5, τ5, is5, eI5, oI5, gI5⟩ := imC_EitherChoices a ha b hb
      rw [hX] at oI5
      obtain ⟨m1, dm1, ym1⟩ := o1.read dp_Choices
      replace ym1 : PV.ty sh_Choices m1 = a.v := ym1
      obtain ⟨m3, dm3, ym3⟩ := o3.read dp_Choices
      replace ym3 : PV.ty sh_Choices m3 = b.v := ym3
      obtain ⟨P5, σ5, ids5, a5, o5, d5, g5, e5⟩ := lw_impl (f := i_impl_EitherChoices) (ss := [sh_Choices, sh_Choices]) (args := [P1, P3]) (qs := [m1, m3]) [] [i64 (eiA a b).2] eI5 oI5 gI5 (by simp [PV.bels, PV.nls, PV.nl]) (by simp [PV.bels, PV.nls, PV.nl]) (σ := (σ3 ++ [AObj.row 6 [P3] 0])) (by simp only [mapO, dm1, dm3]; (try simp [dfr])) (by simp only [PV.tys, ym1, ym3]; (try rfl)) g4
      have r5 : ∀ i ∈ ids5, ((σ3 ++ [AObj.row 6 [P3] 0])).length ≤ i ∧ i < σ5.length := fun i hi => ⟨d5 i hi, o5.lt i hi⟩
      (try simp only [List.length_append, List.length_cons, List.length_nil, Nat.zero_add] at r5)
      replace uQ := e5.get uQ
      replace o1 := e5.own o1
      replace u2 := e5.get u2
      replace o3 := e5.own o3
      replace u4 := e5.get u4
      have l5 := e5.len
      (try simp only [List.length_append, List.length_cons, List.length_nil, Nat.zero_add] at l5)
      have uQ_5 := uQ
      have u2_5 := u2
      have u4_5 := u4
      obtain ⟨w5_1, w5_2, w5_3, w5_4, w5_5, hP5, kw5_1, kw5_2, kw5_3, kw5_4, kw5_5⟩ := dec_Choices o5
      have bb6 := o5.bel
      have g6 : Good (σ5 ++ [AObj.row 6 [P5] 0]) := Good.snoc g5 (by simp only [PV.bels, bb6, Bool.and_true])
      have e6 := Ext.snoc (σ5) (AObj.row 6 [P5] 0)
      replace uQ := e6.get uQ
      replace o1 := e6.own o1
      replace u2 := e6.get u2
      replace o3 := e6.own o3
      replace u4 := e6.get u4
      replace o5 := e6.own o5
      have l6 := e6.len
      (try simp only [List.length_append, List.length_cons, List.length_nil, Nat.zero_add] at l6)
      have uQ_6 := uQ
      have u2_6 := u2
      have u4_6 := u4
      have u6 : (σ5 ++ [AObj.row 6 [P5] 0])[σ5.length]? = some (AObj.row 6 [P5] 0) := by simp
      have uQ_6 := uQ
      have u2_6 := u2
      have u4_6 := u4
      have u6_6 := u6
      have q1_ := lw_eqL (f := i_laws_eqChoices) dp_Choices o5 yQ (dQ _) (eqq_Choices X hL)
      replace q1_ : callT fns [sh_Choices, sh_Choices] i_laws_eqChoices [P5, Q] (σ5 ++ [AObj.row 6 [P5] 0]) = some (bol true, (σ5 ++ [AObj.row 6 [P5] 0])) := q1_
      obtain ⟨P7, σ7, ids7, a7, o7, d7, g7, e7⟩ := lw_to toC_Choices a ha (σ5 ++ [AObj.row 6 [P5] 0]) g6
      have r7 : ∀ i ∈ ids7, ((σ5 ++ [AObj.row 6 [P5] 0])).length ≤ i ∧ i < σ7.length := fun i hi => ⟨d7 i hi, o7.lt i hi⟩
      (try simp only [List.length_append, List.length_cons, List.length_nil, Nat.zero_add] at r7)
      replace uQ := e7.get uQ
      replace o1 := e7.own o1
      replace u2 := e7.get u2
      replace o3 := e7.own o3
      replace u4 := e7.get u4
      replace o5 := e7.own o5
      replace u6 := e7.get u6
      have l7 := e7.len
      (try simp only [List.length_append, List.length_cons, List.length_nil, Nat.zero_add] at l7)
      have uQ_7 := uQ
      have u2_7 := u2
      have u4_7 := u4
      have u6_7 := u6
      have q2_ := lw_eq2 (f := i_laws_eqChoices) dp_Choices o1 o7 (eqq_Choices a ha)
      replace q2_ : callT fns [sh_Choices, sh_Choices] i_laws_eqChoices [P1, P7] σ7 = some (bol true, σ7) := q2_
      obtain ⟨P8, σ8, ids8, a8, o8, d8, g8, e8⟩ := lw_to toC_Choices b hb σ7 g7
      have r8 : ∀ i ∈ ids8, (σ7).length ≤ i ∧ i < σ8.length := fun i hi => ⟨d8 i hi, o8.lt i hi⟩
      (try simp only [List.length_append, List.length_cons, List.length_nil, Nat.zero_add] at r8)
      replace uQ := e8.get uQ
      replace o1 := e8.own o1
      replace u2 := e8.get u2
      replace o3 := e8.own o3
      replace u4 := e8.get u4
      replace o5 := e8.own o5
      replace u6 := e8.get u6
      have l8 := e8.len
      (try simp only [List.length_append, List.length_cons, List.length_nil, Nat.zero_add] at l8)
      have uQ_8 := uQ
      have u2_8 := u2
      have u4_8 := u4
      have u6_8 := u6
      have q3_ := lw_eq2 (f := i_laws_eqChoices) dp_Choices o3 o8 (eqq_Choices b hb)
      replace q3_ : callT fns [sh_Choices, sh_Choices] i_laws_eqChoices [P3, P8] σ8 = some (bol true, σ8) := q3_
      obtain ⟨σ9, a9, o9, g9, e9⟩ := lw_mark mrk_Choices (1) o1 g8 (by omega) (by omega)
      replace uQ := e9.get (fun hj => by have := r1 _ hj; (try simp only [List.length_append, List.length_cons, List.length_nil, Nat.zero_add] at this); omega) uQ
      replace u2 := e9.get (fun hj => by have := r1 _ hj; (try simp only [List.length_append, List.length_cons, List.length_nil, Nat.zero_add] at this); omega) u2
      replace o3 := e9.own o3 (fun i hi hj => by have := r3 i hi; have := r1 i hj; omega)
      replace u4 := e9.get (fun hj => by have := r1 _ hj; (try simp only [List.length_append, List.length_cons, List.length_nil, Nat.zero_add] at this); omega) u4
      replace o5 := e9.own o5 (fun i hi hj => by have := r5 i hi; have := r1 i hj; omega)
      replace u6 := e9.get (fun hj => by have := r1 _ hj; (try simp only [List.length_append, List.length_cons, List.length_nil, Nat.zero_add] at this); omega) u6
      have l9 := e9.1
      have uQ_9 := uQ
      have u2_9 := u2
      have u4_9 := u4
      have u6_9 := u6
      obtain ⟨σ10, a10, o10, g10, e10⟩ := lw_mark mrk_Choices (1 + wq_Choices a) o3 g9 (by omega) (by omega)
      replace uQ := e10.get (fun hj => by have := r3 _ hj; (try simp only [List.length_append, List.length_cons, List.length_nil, Nat.zero_add] at this); omega) uQ
      replace u2 := e10.get (fun hj => by have := r3 _ hj; (try simp only [List.length_append, List.length_cons, List.length_nil, Nat.zero_add] at this); omega) u2
      replace u4 := e10.get (fun hj => by have := r3 _ hj; (try simp only [List.length_append, List.length_cons, List.length_nil, Nat.zero_add] at this); omega) u4
      replace o5 := e10.own o5 (fun i hi hj => by have := r5 i hi; have := r3 i hj; omega)
      replace u6 := e10.get (fun hj => by have := r3 _ hj; (try simp only [List.length_append, List.length_cons, List.length_nil, Nat.zero_add] at this); omega) u6
      have l10 := e10.1
      have uQ_10 := uQ
      have u2_10 := u2
      have u4_10 := u4
      have u6_10 := u6
      have q4_ := lw_eqL (f := i_laws_eqChoices) dp_Choices o5 yQ (dQ _) (eqq_Choices X hL)
      replace q4_ : callT fns [sh_Choices, sh_Choices] i_laws_eqChoices [P5, Q] σ10 = some (bol true, σ10) := q4_
      obtain ⟨σ11, a11, o11, g11, e11⟩ := lw_mark mrk_Choices (1) o5 g10 (by omega) (by omega)
      replace uQ := e11.get (fun hj => by have := r5 _ hj; (try simp only [List.length_append, List.length_cons, List.length_nil, Nat.zero_add] at this); omega) uQ
      replace u2 := e11.get (fun hj => by have := r5 _ hj; (try simp only [List.length_append, List.length_cons, List.length_nil, Nat.zero_add] at this); omega) u2
      replace u4 := e11.get (fun hj => by have := r5 _ hj; (try simp only [List.length_append, List.length_cons, List.length_nil, Nat.zero_add] at this); omega) u4
      replace u6 := e11.get (fun hj => by have := r5 _ hj; (try simp only [List.length_append, List.length_cons, List.length_nil, Nat.zero_add] at this); omega) u6
      have l11 := e11.1
      have uQ_11 := uQ
      have u2_11 := u2
      have u4_11 := u4
      have u6_11 := u6
      have q5_ := lw_held hld_Choices dp_Choices 1 o11 (by omega) (by omega)
      replace q5_ : callT fns [sh_Choices, .any] i_laws_heldChoices [P5, i64 1] σ11 = some (i64 (1 + wq_Choices X), σ11) := q5_
      obtain ⟨P12, σ12, ids12, a12, o12, d12, g12, e12⟩ := lw_to toC_Choices a ha σ11 g11
      have r12 : ∀ i ∈ ids12, (σ11).length ≤ i ∧ i < σ12.length := fun i hi => ⟨d12 i hi, o12.lt i hi⟩
      (try simp only [List.length_append, List.length_cons, List.length_nil, Nat.zero_add] at r12)
      replace uQ := e12.get uQ
      replace u2 := e12.get u2
      replace u4 := e12.get u4
      replace o11 := e12.own o11
      replace u6 := e12.get u6
      have l12 := e12.len
      (try simp only [List.length_append, List.length_cons, List.length_nil, Nat.zero_add] at l12)
      have uQ_12 := uQ
      have u2_12 := u2
      have u4_12 := u4
      have u6_12 := u6
      obtain ⟨P13, σ13, ids13, a13, o13, d13, g13, e13⟩ := lw_to toC_Choices b hb σ12 g12
      have r13 : ∀ i ∈ ids13, (σ12).length ≤ i ∧ i < σ13.length := fun i hi => ⟨d13 i hi, o13.lt i hi⟩
      (try simp only [List.length_append, List.length_cons, List.length_nil, Nat.zero_add] at r13)
      replace uQ := e13.get uQ
      replace u2 := e13.get u2
      replace u4 := e13.get u4
      replace o11 := e13.own o11
      replace u6 := e13.get u6
      replace o12 := e13.own o12
      have l13 := e13.len
      (try simp only [List.length_append, List.length_cons, List.length_nil, Nat.zero_add] at l13)
      have uQ_13 := uQ
      have u2_13 := u2
      have u4_13 := u4
      have u6_13 := u6
      obtain ⟨p14, τ14, is14, eI14, oI14, gI14⟩ := imC_EitherChoices a ha b hb
      rw [hX] at oI14
      obtain ⟨m12, dm12, ym12⟩ := o12.read dp_Choices
      replace ym12 : PV.ty sh_Choices m12 = a.v := ym12
      obtain ⟨m13, dm13, ym13⟩ := o13.read dp_Choices
      replace ym13 : PV.ty sh_Choices m13 = b.v := ym13
      obtain ⟨P14, σ14, ids14, a14, o14, d14, g14, e14⟩ := lw_impl (f := i_impl_EitherChoices) (ss := [sh_Choices, sh_Choices]) (args := [P12, P13]) (qs := [m12, m13]) [] [i64 (eiA a b).2] eI14 oI14 gI14 (by simp [PV.bels, PV.nls, PV.nl]) (by simp [PV.bels, PV.nls, PV.nl]) (σ := σ13) (by simp only [mapO, dm12, dm13]; (try simp [dfr])) (by simp only [PV.tys, ym12, ym13]; (try rfl)) g13
      have r14 : ∀ i ∈ ids14, (σ13).length ≤ i ∧ i < σ14.length := fun i hi => ⟨d14 i hi, o14.lt i hi⟩
      (try simp only [List.length_append, List.length_cons, List.length_nil, Nat.zero_add] at r14)
      replace uQ := e14.get uQ
      replace u2 := e14.get u2
      replace u4 := e14.get u4
      replace o11 := e14.own o11
      replace u6 := e14.get u6
      replace o12 := e14.own o12
      replace o13 := e14.own o13
      have l14 := e14.len
      (try simp only [List.length_append, List.length_cons, List.length_nil, Nat.zero_add] at l14)
      have uQ_14 := uQ
      have u2_14 := u2
      have u4_14 := u4
      have u6_14 := u6
      obtain ⟨w14_1, w14_2, w14_3, w14_4, w14_5, hP14, kw14_1, kw14_2, kw14_3, kw14_4, kw14_5⟩ := dec_Choices o14
      have bb15 := o14.bel
      have g15 : Good (σ14 ++ [AObj.row 6 [P14] 0]) := Good.snoc g14 (by simp only [PV.bels, bb15, Bool.and_true])
      have e15 := Ext.snoc (σ14) (AObj.row 6 [P14] 0)
      replace uQ := e15.get uQ
      replace u2 := e15.get u2
      replace u4 := e15.get u4
      replace o11 := e15.own o11
      replace u6 := e15.get u6
      replace o12 := e15.own o12
      replace o13 := e15.own o13
      replace o14 := e15.own o14
      have l15 := e15.len
      (try simp only [List.length_append, List.length_cons, List.length_nil, Nat.zero_add] at l15)
      have uQ_15 := uQ
      have u2_15 := u2
      have u4_15 := u4
      have u6_15 := u6
      have u15 : (σ14 ++ [AObj.row 6 [P14] 0])[σ14.length]? = some (AObj.row 6 [P14] 0) := by simp
      have uQ_15 := uQ
      have u2_15 := u2
      have u4_15 := u4
      have u6_15 := u6
      have u15_15 := u15
      have q6_ := lw_eqL (f := i_laws_eqChoices) dp_Choices o14 yQ (dQ _) (eqq_Choices X hL)
      replace q6_ : callT fns [sh_Choices, sh_Choices] i_laws_eqChoices [P14, Q] (σ14 ++ [AObj.row 6 [P14] 0]) = some (bol true, (σ14 ++ [AObj.row 6 [P14] 0])) := q6_
      have q7_ := lw_held hld_Choices dp_Choices 1 o11 (by omega) (by omega)
      replace q7_ : callT fns [sh_Choices, .any] i_laws_heldChoices [P5, i64 1] (σ14 ++ [AObj.row 6 [P14] 0]) = some (i64 (1 + wq_Choices X), (σ14 ++ [AObj.row 6 [P14] 0])) := q7_
      unfold Good at g1 g2 g3 g4 g5 g6 g7 g8 g9 g10 g11 g12 g13 g14 g15 gQ
      have w0 : ¬ (((1 : Int) + wq_Choices a + wq_Choices b : Int) < 0) := by omega
      have w1 : ¬ ((1 : Int) + (wq_Choices X : Nat) < 0) := by omega
      subst hQ
      subst hP1
      subst hP3
      subst hP5
      subst hP14
      simp [-callN, -callT] at za zb sQ kv1 kv2 kv3 kv4 kv5 a1 uQ_1 kw1_1 kw1_2 kw1_3 kw1_4 kw1_5 uQ_2 a3 uQ_3 u2_3 kw3_1 kw3_2 kw3_3 kw3_4 kw3_5 uQ_4 u2_4 a5 uQ_5 u2_5 u4_5 kw5_1 kw5_2 kw5_3 kw5_4 kw5_5 uQ_6 u2_6 u4_6 uQ_6 u2_6 u4_6 u6_6 q1_ a7 uQ_7 u2_7 u4_7 u6_7 q2_ a8 uQ_8 u2_8 u4_8 u6_8 q3_ a9 uQ_9 u2_9 u4_9 u6_9 a10 uQ_10 u2_10 u4_10 u6_10 q4_ a11 uQ_11 u2_11 u4_11 u6_11 q5_ a12 uQ_12 u2_12 u4_12 u6_12 a13 uQ_13 u2_13 u4_13 u6_13 a14 uQ_14 u2_14 u4_14 u6_14 kw14_1 kw14_2 kw14_3 kw14_4 kw14_5 uQ_15 u2_15 u4_15 u6_15 uQ_15 u2_15 u4_15 u6_15 u15_15 q6_ q7_
      simp (config := { maxSteps := 2000000 }) [-callN, -callT, ac_laws_FnExactEitherChoices, sa, show ¬ (((1048576 : Int) - Siz.size a : Int) < 0) by omega, sb, show ¬ (((1048576 : Int) - Siz.size a - Siz.size b : Int) < 0) by omega, za, zb, sQ, kv1, kv2, kv3, kv4, kv5, a1, uQ_1, kw1_1, kw1_2, kw1_3, kw1_4, kw1_5, uQ_2, a3, uQ_3, u2_3, kw3_1, kw3_2, kw3_3, kw3_4, kw3_5, uQ_4, u2_4, a5, uQ_5, u2_5, u4_5, kw5_1, kw5_2, kw5_3, kw5_4, kw5_5, uQ_6, u2_6, u4_6, uQ_6, u2_6, u4_6, u6_6, q1_, a7, uQ_7, u2_7, u4_7, u6_7, q2_, a8, uQ_8, u2_8, u4_8, u6_8, q3_, a9, uQ_9, u2_9, u4_9, u6_9, a10, uQ_10, u2_10, u4_10, u6_10, q4_, a11, uQ_11, u2_11, u4_11, u6_11, q5_, a12, uQ_12, u2_12, u4_12, u6_12, a13, uQ_13, u2_13, u4_13, u6_13, a14, uQ_14, u2_14, u4_14, u6_14, kw14_1, kw14_2, kw14_3, kw14_4, kw14_5, uQ_15, u2_15, u4_15, u6_15, uQ_15, u2_15, u4_15, u6_15, u15_15, q6_, q7_, g1, g2, g3, g4, g5, g6, g7, g8, g9, g10, g11, g12, g13, g14, g15, gQ, w0, w1]
    · rw [szR_no (by omega)] at eb
      have sb := fun σ => callN_lone (σ := σ) (by simp [PV.bels]) eb (by simp)
      simp [-callN, -callT] at sb
      simp [-callN, -callT, ac_laws_FnExactEitherChoices, sa, show ¬ (((1048576 : Int) - Siz.size a : Int) < 0) by omega, sb]
  · rw [szR_no (by omega)] at ea
    have sa := fun σ => callN_lone (σ := σ) (by simp [PV.bels]) ea (by simp)
    simp [-callN, -callT] at sa
    simp [-callN, -callT, ac_laws_FnExactEitherChoices, sa]
end Go.Proofs.Ytlolldjkahkbfaa
