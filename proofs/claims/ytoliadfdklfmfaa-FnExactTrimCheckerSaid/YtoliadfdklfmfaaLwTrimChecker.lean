/- The law FnExactTrimChecker, run: out of what the program's function and the reference's return; printed by a program (lw.py). -/
import Derived.Test.YtoliadfdklfmfaaLwC
import Derived.Test.YtoliadfdklfmfaaTrR3
set_option linter.unusedVariables false
set_option linter.unusedSimpArgs false
set_option maxRecDepth 100000
namespace Go.Proofs.Ytoliadfdklfmfaa
open Aw

theorem wl_Checker (x : GChecker) : wChecker x ≤ 4 * Siz.size x + 4 := by
  rw [size_Checker]
  unfold wChecker
  have h0 := (fun y : List Bool => (by have := Siz.len_le y; (try dsimp only); omega : (fun xs : List Bool => 1 * xs.length) y ≤ 4 * Siz.size y)) x.accept
  have h1 := (sumW_le4 (W := (fun xs : List GPush => 2 * xs.length)) (fun y => by have := (fun y : List GPush => (by have := Siz.len_le y; (try dsimp only); omega : (fun xs : List GPush => 2 * xs.length) y ≤ 4 * Siz.size y)) y; (try dsimp only at *); omega)) x.call
  have h2 := (sumW_le4 (W := (sumW (fun xs : List Int => 1 * xs.length))) (fun y => by have := (sumW_le4 (W := (fun xs : List Int => 1 * xs.length)) (fun y => by have := (fun y : List Int => (by have := Siz.len_le y; (try dsimp only); omega : (fun xs : List Int => 1 * xs.length) y ≤ 4 * Siz.size y)) y; (try dsimp only at *); omega)) y; (try dsimp only at *); omega)) x.ret
  have h3 := (sumW_le4 (W := (fun xs : List Int => 1 * xs.length)) (fun y => by have := (fun y : List Int => (by have := Siz.len_le y; (try dsimp only); omega : (fun xs : List Int => 1 * xs.length) y ≤ 4 * Siz.size y)) y; (try dsimp only at *); omega)) x.inner
  (try dsimp only at *)
  omega
@[simp] abbrev sh_Checker : Sh := (.agg [.any, .any, (.lst 1 .any), (.lst 1 (.lst 2 .any)), (.lst 1 (.lst 1 (.lst 1 .any))), (.lst 1 (.lst 1 .any))])
theorem dp_Checker : Own.dep (GChecker) ≤ 9 := by decide
abbrev wq_Checker (x : GChecker) : Nat := wChecker x
abbrev mq_Checker : GChecker → Int → GChecker := mkChecker
theorem wb_Checker (x : GChecker) : wq_Checker x ≤ 4 * Siz.size x + 4 := wl_Checker x
theorem eqq_Checker (x : GChecker) (h : Siz.size x ≤ 1048576) : ev fns i_laws_eqChecker [Enc.pv x, Enc.pv x] [] = some (bol true, []) := by have := ev_laws_eqChecker x x h; simpa using this
theorem mrk_Checker : MarkC (α := GChecker) fns i_laws_markChecker wq_Checker mq_Checker := markC_Checker
theorem hld_Checker : HeldC (α := GChecker) fns i_laws_heldChecker wq_Checker mq_Checker := heldC_Checker
theorem dec_Checker {σ : List AObj} {ids : List Nat} {p : PV} {x : GChecker} (h : OwnIn σ ids p x) : ∃ r2 r3 r4 r5, p = .agg [(i64 x.stack), (i64 x.start), r2, r3, r4, r5] ∧ r2.one = true ∧ r3.one = true ∧ r4.one = true ∧ r5.one = true := by
  obtain ⟨i0, r0, i1, r1, i2, r2, i3, r3, i4, r4, i5, r5, _, rfl, ⟨_, rfl⟩, ⟨_, rfl⟩, h2, h3, h4, h5⟩ := own_Checker.1 h.own
  exact ⟨r2, r3, r4, r5, by simp, (own_one h2).2.2.2, (own_one h3).2.2.2, (own_one h4).2.2.2, (own_one h5).2.2.2⟩
theorem dcf_Checker {q : PV} {x : GChecker} (h : PV.ty sh_Checker q = Enc.pv x) : ∃ r2 r3 r4 r5, q = .agg [(i64 x.stack), (i64 x.start), r2, r3, r4, r5] ∧ dfr [] 9 q = some q ∧ (∀ σ, dfr σ 9 q = some q) ∧ r2.one = true ∧ r3.one = true ∧ r4.one = true ∧ r5.one = true := by
  obtain ⟨qs, rfl, t0⟩ := ty_agg_inv h
  obtain ⟨r0, qs0, rfl, e0, t1⟩ := tys_cons_inv t0
  obtain ⟨r1, qs1, rfl, e1, t2⟩ := tys_cons_inv t1
  obtain ⟨r2, qs2, rfl, e2, t3⟩ := tys_cons_inv t2
  obtain ⟨r3, qs3, rfl, e3, t4⟩ := tys_cons_inv t3
  obtain ⟨r4, qs4, rfl, e4, t5⟩ := tys_cons_inv t4
  obtain ⟨r5, qs5, rfl, e5, t6⟩ := tys_cons_inv t5
  obtain rfl := tys_nil_inv t6
  replace e0 : r0 = (i64 x.stack) := by simpa using e0
  subst e0
  replace e1 : r1 = (i64 x.start) := by simpa using e1
  subst e1
  have k2 := ty_lst_inv e2
  have k3 := ty_lst_inv e3
  have k4 := ty_lst_inv e4
  have k5 := ty_lst_inv e5
  have hd : ∀ σ, dfr σ 9 (.agg [(i64 x.stack), (i64 x.start), r2, r3, r4, r5]) = some (.agg [(i64 x.stack), (i64 x.start), r2, r3, r4, r5]) := fun σ => by simp [dfr, mapO, k2.2.1, k3.2.1, k4.2.1, k5.2.1]
  exact ⟨r2, r3, r4, r5, rfl, hd [], hd, k2.1, k3.1, k4.1, k5.1⟩
set_option maxHeartbeats 16000000 in
theorem ev_FnExactTrimChecker (c : GChecker) (fc : Siz.fits c) : ev fns i_laws_FnExactTrimChecker [c.v] [] = some (bol true, []) := by
  refine go_laws_FnExactTrimChecker (by simp) ?_
  have ec := ev_laws_szChecker c (1048576) (by omega) (by omega) fc
  by_cases cc : (Siz.size c : Int) ≤ 1048576
  · skip
    rw [szR_ok cc] at ec
    have sc := fun σ => callN_lone (σ := σ) (by simp [PV.bels]) ec (by simp)
    simp [-callN, -callT] at sc
    have hc : Siz.size c ≤ 1048576 := by omega
    have wbc := wb_Checker c
    have hL := leC_TrimChecker c hc
    have wbR := wb_Checker (tkX c)
    generalize hX : (tkX c) = X at *
    obtain ⟨Q, eQ, bQ, yQ⟩ := spC_TrimChecker c hc
    rw [hX] at yQ
    obtain ⟨qc, bc, yc, zc⟩ := lw_cz toC_Checker c hc dp_Checker (fun r h => by simp [-callN, -callT] at h ⊢; exact h)
    replace yc : PV.ty sh_Checker qc = c.v := yc
    have sQ := fun σ => callT_loneT (σ := σ) (fns := fns) (f := i_spec_TrimChecker) (ss := [sh_Checker]) (args := [qc]) (by simp [PV.bels, bc]) (by simp only [PV.tys, yc]; (try rfl)) eQ (by simp [PV.bels, bQ])
    obtain ⟨v2, v3, v4, v5, hQ, _, dQ, kv2, kv3, kv4, kv5⟩ := dcf_Checker yQ
    have gQ : Gud [AObj.row 6 [Q] 0] := Gud.snoc Gud.nil (by simp [PV.bels, PV.bel_le (Nat.zero_le _) bQ])
    have lQ : ([AObj.row 6 [Q] 0] : List AObj).length = 1 := rfl
    have uQ : ([AObj.row 6 [Q] 0] : List AObj)[0]? = some (AObj.row 6 [Q] 0) := rfl
    obtain ⟨P1, σ1, ids1, a1, o1, d1, g1, e1⟩ := lw_to toC_Checker c hc ([AObj.row 6 [Q] 0] : List AObj) gQ
    have r1 : ∀ i ∈ ids1, (([AObj.row 6 [Q] 0] : List AObj)).length ≤ i ∧ i < σ1.length := fun i hi => ⟨d1 i hi, o1.lt i hi⟩
    (try simp only [List.length_append, List.length_cons, List.length_nil, Nat.zero_add] at r1)
    replace uQ := e1.get uQ
    have l1 := e1.len
    (try simp only [List.length_append, List.length_cons, List.length_nil, Nat.zero_add] at l1)
    have uQ_1 := uQ
    obtain ⟨w1_2, w1_3, w1_4, w1_5, hP1, kw1_2, kw1_3, kw1_4, kw1_5⟩ := dec_Checker o1
    have bb2 := o1.bel
    have g2 : Gud (σ1 ++ [AObj.row 6 [P1] 0]) := Gud.snoc g1 (by simp only [PV.bels, bb2, Bool.and_true])
    have e2 := Ext.snoc (σ1) (AObj.row 6 [P1] 0)
    replace uQ := e2.get uQ
    replace o1 := e2.own o1
    have l2 := e2.len
    (try simp only [List.length_append, List.length_cons, List.length_nil, Nat.zero_add] at l2)
    have uQ_2 := uQ
    have u2 : (σ1 ++ [AObj.row 6 [P1] 0])[σ1.length]? = some (AObj.row 6 [P1] 0) := by simp
    obtain ⟨p3, τ3, is3, eI3, oI3, gI3⟩ := imC_TrimChecker c hc
    rw [hX] at oI3
    obtain ⟨m1, dm1, ym1⟩ := o1.read dp_Checker
    replace ym1 : PV.ty sh_Checker m1 = c.v := ym1
    obtain ⟨P3, σ3, ids3, a3, o3, d3, g3, e3⟩ := lw_impl (f := i_impl_TrimChecker) (ss := [sh_Checker]) (args := [P1]) (qs := [m1]) [] [i64 (tkK c)] eI3 oI3 gI3 (by simp [PV.bels, PV.nls, PV.nl]) (by simp [PV.bels, PV.nls, PV.nl]) (σ := (σ1 ++ [AObj.row 6 [P1] 0])) (by simp only [mapO, dm1]; (try simp [dfr])) (by simp only [PV.tys, ym1]; (try rfl)) g2
    have r3 : ∀ i ∈ ids3, ((σ1 ++ [AObj.row 6 [P1] 0])).length ≤ i ∧ i < σ3.length := fun i hi => ⟨d3 i hi, o3.lt i hi⟩
    (try simp only [List.length_append, List.length_cons, List.length_nil, Nat.zero_add] at r3)
    replace uQ := e3.get uQ
    replace o1 := e3.own o1
    replace u2 := e3.get u2
    have l3 := e3.len
    (try simp only [List.length_append, List.length_cons, List.length_nil, Nat.zero_add] at l3)
    have uQ_3 := uQ
    have u2_3 := u2
    obtain ⟨w3_2, w3_3, w3_4, w3_5, hP3, kw3_2, kw3_3, kw3_4, kw3_5⟩ := dec_Checker o3
    have bb4 := o3.bel
    have g4 : Gud (σ3 ++ [AObj.row 6 [P3] 0]) := Gud.snoc g3 (by simp only [PV.bels, bb4, Bool.and_true])
    have e4 := Ext.snoc (σ3) (AObj.row 6 [P3] 0)
    replace uQ := e4.get uQ
    replace o1 := e4.own o1
    replace u2 := e4.get u2
    replace o3 := e4.own o3
    have l4 := e4.len
    (try simp only [List.length_append, List.length_cons, List.length_nil, Nat.zero_add] at l4)
    have uQ_4 := uQ
    have u2_4 := u2
    have u4 : (σ3 ++ [AObj.row 6 [P3] 0])[σ3.length]? = some (AObj.row 6 [P3] 0) := by simp
    have uQ_4 := uQ
    have u2_4 := u2
    have u4_4 := u4
    have q1_ := lw_eqL (f := i_laws_eqChecker) dp_Checker o3 yQ (dQ _) (eqq_Checker X hL)
    replace q1_ : callT fns [sh_Checker, sh_Checker] i_laws_eqChecker [P3, Q] (σ3 ++ [AObj.row 6 [P3] 0]) = some (bol true, (σ3 ++ [AObj.row 6 [P3] 0])) := q1_
    obtain ⟨P5, σ5, ids5, a5, o5, d5, g5, e5⟩ := lw_to toC_Checker c hc (σ3 ++ [AObj.row 6 [P3] 0]) g4
    have r5 : ∀ i ∈ ids5, ((σ3 ++ [AObj.row 6 [P3] 0])).length ≤ i ∧ i < σ5.length := fun i hi => ⟨d5 i hi, o5.lt i hi⟩
    (try simp only [List.length_append, List.length_cons, List.length_nil, Nat.zero_add] at r5)
    replace uQ := e5.get uQ
    replace o1 := e5.own o1
    replace u2 := e5.get u2
    replace o3 := e5.own o3
    replace u4 := e5.get u4
    have l5 := e5.len
    (try simp only [List.length_append, List.length_cons, List.length_nil, Nat.zero_add] at l5)
    have uQ_5 := uQ
    have u2_5 := u2
    have u4_5 := u4
    have q2_ := lw_eq2 (f := i_laws_eqChecker) dp_Checker o1 o5 (eqq_Checker c hc)
    replace q2_ : callT fns [sh_Checker, sh_Checker] i_laws_eqChecker [P1, P5] σ5 = some (bol true, σ5) := q2_
    obtain ⟨σ6, a6, o6, g6, e6⟩ := lw_mark mrk_Checker (1) o1 g5 (by omega) (by omega)
    replace uQ := e6.get (fun hj => by have := r1 _ hj; (try simp only [List.length_append, List.length_cons, List.length_nil, Nat.zero_add] at this); omega) uQ
    replace u2 := e6.get (fun hj => by have := r1 _ hj; (try simp only [List.length_append, List.length_cons, List.length_nil, Nat.zero_add] at this); omega) u2
    replace o3 := e6.own o3 (fun i hi hj => by have := r3 i hi; have := r1 i hj; omega)
    replace u4 := e6.get (fun hj => by have := r1 _ hj; (try simp only [List.length_append, List.length_cons, List.length_nil, Nat.zero_add] at this); omega) u4
    have l6 := e6.1
    have uQ_6 := uQ
    have u2_6 := u2
    have u4_6 := u4
    have q3_ := lw_eqL (f := i_laws_eqChecker) dp_Checker o3 yQ (dQ _) (eqq_Checker X hL)
    replace q3_ : callT fns [sh_Checker, sh_Checker] i_laws_eqChecker [P3, Q] σ6 = some (bol true, σ6) := q3_
    obtain ⟨σ7, a7, o7, g7, e7⟩ := lw_mark mrk_Checker (1) o3 g6 (by omega) (by omega)
    replace uQ := e7.get (fun hj => by have := r3 _ hj; (try simp only [List.length_append, List.length_cons, List.length_nil, Nat.zero_add] at this); omega) uQ
    replace u2 := e7.get (fun hj => by have := r3 _ hj; (try simp only [List.length_append, List.length_cons, List.length_nil, Nat.zero_add] at this); omega) u2
    replace u4 := e7.get (fun hj => by have := r3 _ hj; (try simp only [List.length_append, List.length_cons, List.length_nil, Nat.zero_add] at this); omega) u4
    have l7 := e7.1
    have uQ_7 := uQ
    have u2_7 := u2
    have u4_7 := u4
    have q4_ := lw_held hld_Checker dp_Checker 1 o7 (by omega) (by omega)
    replace q4_ : callT fns [sh_Checker, .any] i_laws_heldChecker [P3, i64 1] σ7 = some (i64 (1 + wq_Checker X), σ7) := q4_
    obtain ⟨P8, σ8, ids8, a8, o8, d8, g8, e8⟩ := lw_to toC_Checker c hc σ7 g7
    have r8 : ∀ i ∈ ids8, (σ7).length ≤ i ∧ i < σ8.length := fun i hi => ⟨d8 i hi, o8.lt i hi⟩
    (try simp only [List.length_append, List.length_cons, List.length_nil, Nat.zero_add] at r8)
    replace uQ := e8.get uQ
    replace u2 := e8.get u2
    replace o7 := e8.own o7
    replace u4 := e8.get u4
    have l8 := e8.len
    (try simp only [List.length_append, List.length_cons, List.length_nil, Nat.zero_add] at l8)
    have uQ_8 := uQ
    have u2_8 := u2
    have u4_8 := u4
    obtain ⟨p9, τ9, is9, eI9, oI9, gI9⟩ := imC_TrimChecker c hc
    rw [hX] at oI9
    obtain ⟨m8, dm8, ym8⟩ := o8.read dp_Checker
    replace ym8 : PV.ty sh_Checker m8 = c.v := ym8
    obtain ⟨P9, σ9, ids9, a9, o9, d9, g9, e9⟩ := lw_impl (f := i_impl_TrimChecker) (ss := [sh_Checker]) (args := [P8]) (qs := [m8]) [] [i64 (tkK c)] eI9 oI9 gI9 (by simp [PV.bels, PV.nls, PV.nl]) (by simp [PV.bels, PV.nls, PV.nl]) (σ := σ8) (by simp only [mapO, dm8]; (try simp [dfr])) (by simp only [PV.tys, ym8]; (try rfl)) g8
    have r9 : ∀ i ∈ ids9, (σ8).length ≤ i ∧ i < σ9.length := fun i hi => ⟨d9 i hi, o9.lt i hi⟩
    (try simp only [List.length_append, List.length_cons, List.length_nil, Nat.zero_add] at r9)
    replace uQ := e9.get uQ
    replace u2 := e9.get u2
    replace o7 := e9.own o7
    replace u4 := e9.get u4
    replace o8 := e9.own o8
    have l9 := e9.len
    (try simp only [List.length_append, List.length_cons, List.length_nil, Nat.zero_add] at l9)
    have uQ_9 := uQ
    have u2_9 := u2
    have u4_9 := u4
    obtain ⟨w9_2, w9_3, w9_4, w9_5, hP9, kw9_2, kw9_3, kw9_4, kw9_5⟩ := dec_Checker o9
    have bb10 := o9.bel
    have g10 : Gud (σ9 ++ [AObj.row 6 [P9] 0]) := Gud.snoc g9 (by simp only [PV.bels, bb10, Bool.and_true])
    have e10 := Ext.snoc (σ9) (AObj.row 6 [P9] 0)
    replace uQ := e10.get uQ
    replace u2 := e10.get u2
    replace o7 := e10.own o7
    replace u4 := e10.get u4
    replace o8 := e10.own o8
    replace o9 := e10.own o9
    have l10 := e10.len
    (try simp only [List.length_append, List.length_cons, List.length_nil, Nat.zero_add] at l10)
    have uQ_10 := uQ
    have u2_10 := u2
    have u4_10 := u4
    have u10 : (σ9 ++ [AObj.row 6 [P9] 0])[σ9.length]? = some (AObj.row 6 [P9] 0) := by simp
    have uQ_10 := uQ
    have u2_10 := u2
    have u4_10 := u4
    have u10_10 := u10
    have q5_ := lw_eqL (f := i_laws_eqChecker) dp_Checker o9 yQ (dQ _) (eqq_Checker X hL)
    replace q5_ : callT fns [sh_Checker, sh_Checker] i_laws_eqChecker [P9, Q] (σ9 ++ [AObj.row 6 [P9] 0]) = some (bol true, (σ9 ++ [AObj.row 6 [P9] 0])) := q5_
    have q6_ := lw_held hld_Checker dp_Checker 1 o7 (by omega) (by omega)
    replace q6_ : callT fns [sh_Checker, .any] i_laws_heldChecker [P3, i64 1] (σ9 ++ [AObj.row 6 [P9] 0]) = some (i64 (1 + wq_Checker X), (σ9 ++ [AObj.row 6 [P9] 0])) := q6_
    unfold Gud at g1 g2 g3 g4 g5 g6 g7 g8 g9 g10 gQ
    have w0 : ¬ (((1 : Int) + wq_Checker c : Int) < 0) := by omega
    have w1 : ¬ ((1 : Int) + (wq_Checker X : Nat) < 0) := by omega
    subst hQ
    subst hP1
    subst hP3
    subst hP9
    simp [-callN, -callT] at zc sQ kv2 kv3 kv4 kv5 a1 uQ_1 kw1_2 kw1_3 kw1_4 kw1_5 uQ_2 a3 uQ_3 u2_3 kw3_2 kw3_3 kw3_4 kw3_5 uQ_4 u2_4 uQ_4 u2_4 u4_4 q1_ a5 uQ_5 u2_5 u4_5 q2_ a6 uQ_6 u2_6 u4_6 q3_ a7 uQ_7 u2_7 u4_7 q4_ a8 uQ_8 u2_8 u4_8 a9 uQ_9 u2_9 u4_9 kw9_2 kw9_3 kw9_4 kw9_5 uQ_10 u2_10 u4_10 uQ_10 u2_10 u4_10 u10_10 q5_ q6_
    simp (config := { maxSteps := 2000000 }) [-callN, -callT, ac_laws_FnExactTrimChecker, sc, show ¬ (((1048576 : Int) - Siz.size c : Int) < 0) by omega, zc, sQ, kv2, kv3, kv4, kv5, a1, uQ_1, kw1_2, kw1_3, kw1_4, kw1_5, uQ_2, a3, uQ_3, u2_3, kw3_2, kw3_3, kw3_4, kw3_5, uQ_4, u2_4, uQ_4, u2_4, u4_4, q1_, a5, uQ_5, u2_5, u4_5, q2_, a6, uQ_6, u2_6, u4_6, q3_, a7, uQ_7, u2_7, u4_7, q4_, a8, uQ_8, u2_8, u4_8, a9, uQ_9, u2_9, u4_9, kw9_2, kw9_3, kw9_4, kw9_5, uQ_10, u2_10, u4_10, uQ_10, u2_10, u4_10, u10_10, q5_, q6_, g1, g2, g3, g4, g5, g6, g7, g8, g9, g10, gQ, w0, w1]
  · rw [szR_no (by omega)] at ec
    have sc := fun σ => callN_lone (σ := σ) (by simp [PV.bels]) ec (by simp)
    simp [-callN, -callT] at sc
    simp [-callN, -callT, ac_laws_FnExactTrimChecker, sc]
end Go.Proofs.Ytoliadfdklfmfaa
