/- The law FnExactUsedStates, run: out of what the program's function and the reference's return; printed by a program (lw.py). -/
import Derived.Test.YtoliadfdklfmfaaLwC
import Derived.Test.YtoliadfdklfmfaaUs4
set_option linter.unusedVariables false
set_option linter.unusedSimpArgs false
set_option maxRecDepth 100000
namespace Go.Proofs.Ytoliadfdklfmfaa
open Aw

theorem wl_Checker (x : GChecker) : wChecker x ≤ 4 * Siz.size x + 4 := by
  rw [size_Checker]
  unfold wChecker
  have h0 := (fun y : List Bool => (by have := Siz.len_le y; (try dsimp only); omega : (fun xs : List Bool => 1 * xs.length) y ≤ 4 * Siz.size y)) x.accept
  have h1 := (sumW_le4 (W := (fun xs : List GPush => 2 * xs.length)) (fun y => by have := (fun y : List GPush => (by have := Siz.len_le y; (try dsimp only); omega : (fun xs : List GPush => 2 * xs.length) y ≤ 4 * Siz.size y)) y; (try dsimp only at *); omega)) x.call
  have h2 := (sumW_le4 (W := (sumW (fun xs : List Int => 1 * xs.length))) (fun y => by have := (sumW_le4 (W := (fun xs : List Int => 1 * xs.length)) (fun y => by have := (fun y : List Int => (by have := Siz.len_le y; (try dsimp only); omega : (fun xs : List Int => 1 * xs.length) y ≤ 4 * Siz.size y)) y; (try dsimp only at *); omega)) y; (try dsimp only at *); omega)) x.ret
  have h3 := (sumW_le4 (W := (fun xs : List Int => 1 * xs.length)) (fun y => by have := (fun y : List Int => (by have := Siz.len_le y; (try dsimp only); omega : (fun xs : List Int => 1 * xs.length) y ≤ 4 * Siz.size y)) y; (try dsimp only at *); omega)) x.inner
  (try dsimp only at *)
  omega
@[simp] abbrev sh_Checker : Sh := (.agg [.any, .any, (.lst 1 .any), (.lst 1 (.lst 2 .any)), (.lst 1 (.lst 1 (.lst 1 .any))), (.lst 1 (.lst 1 .any))])
theorem dp_Checker : Own.dep (GChecker) ≤ 9 := by decide
abbrev wq_Checker (x : GChecker) : Nat := wChecker x
abbrev mq_Checker : GChecker → Int → GChecker := mkChecker
theorem wb_Checker (x : GChecker) : wq_Checker x ≤ 4 * Siz.size x + 4 := wl_Checker x
theorem eqq_Checker (x : GChecker) (h : Siz.size x ≤ 1048576) : ev fns i_laws_eqChecker [Enc.pv x, Enc.pv x] [] = some (bol true, []) := by have := ev_laws_eqChecker x x h; simpa using this
theorem mrk_Checker : MarkC (α := GChecker) fns i_laws_markChecker wq_Checker mq_Checker := markC_Checker
theorem dec_Checker {σ : List AObj} {ids : List Nat} {p : PV} {x : GChecker} (h : OwnIn σ ids p x) : ∃ r2 r3 r4 r5, p = .agg [(i64 x.stack), (i64 x.start), r2, r3, r4, r5] ∧ r2.one = true ∧ r3.one = true ∧ r4.one = true ∧ r5.one = true := by
  obtain ⟨i0, r0, i1, r1, i2, r2, i3, r3, i4, r4, i5, r5, _, rfl, ⟨_, rfl⟩, ⟨_, rfl⟩, h2, h3, h4, h5⟩ := own_Checker.1 h.own
  exact ⟨r2, r3, r4, r5, by simp, (own_one h2).2.2.2, (own_one h3).2.2.2, (own_one h4).2.2.2, (own_one h5).2.2.2⟩
@[simp] abbrev sh_Int64S : Sh := (.lst 1 .any)
theorem dp_Int64S : Own.dep (List Int) ≤ 9 := by decide
def wq_Int64S (x : List Int) : Nat := (fun xs : List Int => 1 * xs.length) x
def mq_Int64S : List Int → Int → List Int := (mkF 1 (fun k => k))
theorem wb_Int64S (x : List Int) : wq_Int64S x ≤ 4 * Siz.size x + 4 := by have := (fun y : List Int => (by have := Siz.len_le y; (try dsimp only); omega : (fun xs : List Int => 1 * xs.length) y ≤ 4 * Siz.size y)) x; unfold wq_Int64S; (try dsimp only at *); omega
theorem eqq_Int64S (x : List Int) (h : Siz.size x ≤ 1048576) : ev fns i_laws_eqInt64S [Enc.pv x, Enc.pv x] [] = some (bol true, []) := by have := ev_laws_eqInt64S x x h; simpa using this
theorem mrk_Int64S : MarkC (α := List Int) fns i_laws_markInt64S wq_Int64S mq_Int64S := markC_Int64S
theorem hld_Int64S : HeldC (α := List Int) fns i_laws_heldInt64S wq_Int64S mq_Int64S := heldC_Int64S
theorem dcf_Int64S {q : PV} {x : List Int} (h : PV.ty sh_Int64S q = Enc.pv x) : (∀ σ, dfr σ 9 q = some q) ∧ q.one = true := by
  have k := ty_lst_inv h
  exact ⟨fun σ => k.2.1 σ 8, k.1⟩
set_option maxHeartbeats 16000000 in
theorem ev_FnExactUsedStates (c : GChecker) (fc : Siz.fits c) : ev fns i_laws_FnExactUsedStates [c.v] [] = some (bol true, []) := by
  refine go_laws_FnExactUsedStates (by simp) ?_
  have ec := ev_laws_szChecker c (1048576) (by omega) (by omega) fc
  by_cases cc : (Siz.size c : Int) ≤ 1048576
  · skip
    rw [szR_ok cc] at ec
    have sc := fun σ => callN_lone (σ := σ) (by simp [PV.bels]) ec (by simp)
    simp [-callN, -callT] at sc
    have hc : Siz.size c ≤ 1048576 := by omega
    have wbc := wb_Checker c
    have hL := leC_UsedStates c hc
    have wbR := wb_Int64S (usA c).1
    generalize hX : (usA c).1 = X at *
    obtain ⟨Q, eQ, bQ, yQ⟩ := spC_UsedStates c hc
    rw [hX] at yQ
    obtain ⟨qc, bc, yc, zc⟩ := lw_cz toC_Checker c hc dp_Checker (fun r h => by simp [-callN, -callT] at h ⊢; exact h)
    replace yc : PV.ty sh_Checker qc = c.v := yc
    have sQ := fun σ => callT_loneT (σ := σ) (fns := fns) (f := i_spec_UsedStates) (ss := [sh_Checker]) (args := [qc]) (by simp [PV.bels, bc]) (by simp only [PV.tys, yc]; (try rfl)) eQ (by simp [PV.bels, bQ])
    obtain ⟨dQ, kQ⟩ := dcf_Int64S yQ
    obtain ⟨P1, σ1, ids1, a1, o1, d1, g1, e1⟩ := lw_to toC_Checker c hc ([] : List AObj) Gud.nil
    have r1 : ∀ i ∈ ids1, (([] : List AObj)).length ≤ i ∧ i < σ1.length := fun i hi => ⟨d1 i hi, o1.lt i hi⟩
    (try simp only [List.length_append, List.length_cons, List.length_nil, Nat.zero_add] at r1)
    have l1 := e1.len
    (try simp only [List.length_append, List.length_cons, List.length_nil, Nat.zero_add] at l1)
    obtain ⟨w1_2, w1_3, w1_4, w1_5, hP1, kw1_2, kw1_3, kw1_4, kw1_5⟩ := dec_Checker o1
    have bb2 := o1.bel
    have g2 : Gud (σ1 ++ [AObj.row 6 [P1] 0]) := Gud.snoc g1 (by simp only [PV.bels, bb2, Bool.and_true])
    have e2 := Ext.snoc (σ1) (AObj.row 6 [P1] 0)
    replace o1 := e2.own o1
    have l2 := e2.len
    (try simp only [List.length_append, List.length_cons, List.length_nil, Nat.zero_add] at l2)
    have u2 : (σ1 ++ [AObj.row 6 [P1] 0])[σ1.length]? = some (AObj.row 6 [P1] 0) := by simp
    obtain ⟨p3, τ3, is3, eI3, oI3, gI3⟩ := imC_UsedStates c hc
    rw [hX] at oI3
    obtain ⟨m1, dm1, ym1⟩ := o1.read dp_Checker
    replace ym1 : PV.ty sh_Checker m1 = c.v := ym1
    obtain ⟨P3, σ3, ids3, a3, o3, d3, g3, e3⟩ := lw_impl (f := i_impl_UsedStates) (ss := [sh_Checker]) (args := [P1]) (qs := [m1]) [] [i64 (usA c).2] eI3 oI3 gI3 (by simp [PV.bels, PV.nls, PV.nl]) (by simp [PV.bels, PV.nls, PV.nl]) (σ := (σ1 ++ [AObj.row 6 [P1] 0])) (by simp only [mapO, dm1]; (try simp [dfr])) (by simp only [PV.tys, ym1]; (try rfl)) g2
    have r3 : ∀ i ∈ ids3, ((σ1 ++ [AObj.row 6 [P1] 0])).length ≤ i ∧ i < σ3.length := fun i hi => ⟨d3 i hi, o3.lt i hi⟩
    (try simp only [List.length_append, List.length_cons, List.length_nil, Nat.zero_add] at r3)
    replace o1 := e3.own o1
    replace u2 := e3.get u2
    have l3 := e3.len
    (try simp only [List.length_append, List.length_cons, List.length_nil, Nat.zero_add] at l3)
    have u2_3 := u2
    have u2_3 := u2
    have q1_ := lw_eqL (f := i_laws_eqInt64S) dp_Int64S o3 yQ (dQ _) (eqq_Int64S X hL)
    replace q1_ : callT fns [sh_Int64S, sh_Int64S] i_laws_eqInt64S [P3, Q] σ3 = some (bol true, σ3) := q1_
    obtain ⟨P4, σ4, ids4, a4, o4, d4, g4, e4⟩ := lw_to toC_Checker c hc σ3 g3
    have r4 : ∀ i ∈ ids4, (σ3).length ≤ i ∧ i < σ4.length := fun i hi => ⟨d4 i hi, o4.lt i hi⟩
    (try simp only [List.length_append, List.length_cons, List.length_nil, Nat.zero_add] at r4)
    replace o1 := e4.own o1
    replace u2 := e4.get u2
    replace o3 := e4.own o3
    have l4 := e4.len
    (try simp only [List.length_append, List.length_cons, List.length_nil, Nat.zero_add] at l4)
    have u2_4 := u2
    have q2_ := lw_eq2 (f := i_laws_eqChecker) dp_Checker o1 o4 (eqq_Checker c hc)
    replace q2_ : callT fns [sh_Checker, sh_Checker] i_laws_eqChecker [P1, P4] σ4 = some (bol true, σ4) := q2_
    obtain ⟨σ5, a5, o5, g5, e5⟩ := lw_mark mrk_Checker (1) o1 g4 (by omega) (by omega)
    replace u2 := e5.get (fun hj => by have := r1 _ hj; (try simp only [List.length_append, List.length_cons, List.length_nil, Nat.zero_add] at this); omega) u2
    replace o3 := e5.own o3 (fun i hi hj => by have := r3 i hi; have := r1 i hj; omega)
    have l5 := e5.1
    have u2_5 := u2
    have q3_ := lw_eqL (f := i_laws_eqInt64S) dp_Int64S o3 yQ (dQ _) (eqq_Int64S X hL)
    replace q3_ : callT fns [sh_Int64S, sh_Int64S] i_laws_eqInt64S [P3, Q] σ5 = some (bol true, σ5) := q3_
    obtain ⟨σ6, a6, o6, g6, e6⟩ := lw_mark mrk_Int64S (1) o3 g5 (by omega) (by omega)
    replace u2 := e6.get (fun hj => by have := r3 _ hj; (try simp only [List.length_append, List.length_cons, List.length_nil, Nat.zero_add] at this); omega) u2
    have l6 := e6.1
    have u2_6 := u2
    have q4_ := lw_held hld_Int64S dp_Int64S 1 o6 (by omega) (by omega)
    replace q4_ : callT fns [sh_Int64S, .any] i_laws_heldInt64S [P3, i64 1] σ6 = some (i64 (1 + wq_Int64S X), σ6) := q4_
    obtain ⟨P7, σ7, ids7, a7, o7, d7, g7, e7⟩ := lw_to toC_Checker c hc σ6 g6
    have r7 : ∀ i ∈ ids7, (σ6).length ≤ i ∧ i < σ7.length := fun i hi => ⟨d7 i hi, o7.lt i hi⟩
    (try simp only [List.length_append, List.length_cons, List.length_nil, Nat.zero_add] at r7)
    replace u2 := e7.get u2
    replace o6 := e7.own o6
    have l7 := e7.len
    (try simp only [List.length_append, List.length_cons, List.length_nil, Nat.zero_add] at l7)
    have u2_7 := u2
    obtain ⟨p8, τ8, is8, eI8, oI8, gI8⟩ := imC_UsedStates c hc
    rw [hX] at oI8
    obtain ⟨m7, dm7, ym7⟩ := o7.read dp_Checker
    replace ym7 : PV.ty sh_Checker m7 = c.v := ym7
    obtain ⟨P8, σ8, ids8, a8, o8, d8, g8, e8⟩ := lw_impl (f := i_impl_UsedStates) (ss := [sh_Checker]) (args := [P7]) (qs := [m7]) [] [i64 (usA c).2] eI8 oI8 gI8 (by simp [PV.bels, PV.nls, PV.nl]) (by simp [PV.bels, PV.nls, PV.nl]) (σ := σ7) (by simp only [mapO, dm7]; (try simp [dfr])) (by simp only [PV.tys, ym7]; (try rfl)) g7
    have r8 : ∀ i ∈ ids8, (σ7).length ≤ i ∧ i < σ8.length := fun i hi => ⟨d8 i hi, o8.lt i hi⟩
    (try simp only [List.length_append, List.length_cons, List.length_nil, Nat.zero_add] at r8)
    replace u2 := e8.get u2
    replace o6 := e8.own o6
    replace o7 := e8.own o7
    have l8 := e8.len
    (try simp only [List.length_append, List.length_cons, List.length_nil, Nat.zero_add] at l8)
    have u2_8 := u2
    have u2_8 := u2
    have q5_ := lw_eqL (f := i_laws_eqInt64S) dp_Int64S o8 yQ (dQ _) (eqq_Int64S X hL)
    replace q5_ : callT fns [sh_Int64S, sh_Int64S] i_laws_eqInt64S [P8, Q] σ8 = some (bol true, σ8) := q5_
    have q6_ := lw_held hld_Int64S dp_Int64S 1 o6 (by omega) (by omega)
    replace q6_ : callT fns [sh_Int64S, .any] i_laws_heldInt64S [P3, i64 1] σ8 = some (i64 (1 + wq_Int64S X), σ8) := q6_
    unfold Gud at g1 g2 g3 g4 g5 g6 g7 g8
    have w0 : ¬ (((1 : Int) + wq_Checker c : Int) < 0) := by omega
    have w1 : ¬ ((1 : Int) + (wq_Int64S X : Nat) < 0) := by omega
    subst hP1
    simp [-callN, -callT] at zc sQ kQ a1 kw1_2 kw1_3 kw1_4 kw1_5 a3 u2_3 u2_3 q1_ a4 u2_4 q2_ a5 u2_5 q3_ a6 u2_6 q4_ a7 u2_7 a8 u2_8 u2_8 q5_ q6_
    simp (config := { maxSteps := 2000000 }) [-callN, -callT, ac_laws_FnExactUsedStates, sc, show ¬ (((1048576 : Int) - Siz.size c : Int) < 0) by omega, zc, sQ, kQ, a1, kw1_2, kw1_3, kw1_4, kw1_5, a3, u2_3, u2_3, q1_, a4, u2_4, q2_, a5, u2_5, q3_, a6, u2_6, q4_, a7, u2_7, a8, u2_8, u2_8, q5_, q6_, g1, g2, g3, g4, g5, g6, g7, g8, w0, w1]
  · rw [szR_no (by omega)] at ec
    have sc := fun σ => callN_lone (σ := σ) (by simp [PV.bels]) ec (by simp)
    simp [-callN, -callT] at sc
    simp [-callN, -callT, ac_laws_FnExactUsedStates, sc]
end Go.Proofs.Ytoliadfdklfmfaa
