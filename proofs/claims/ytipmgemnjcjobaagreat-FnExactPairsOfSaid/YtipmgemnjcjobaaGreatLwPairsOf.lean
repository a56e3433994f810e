/- The law FnExactPairsOf, run: out of what the program's function and the reference's return; printed by a program (lw.py). -/
import Derived.Test.YtipmgemnjcjobaaGreatLwC
import Derived.Test.YtipmgemnjcjobaaGreatPairRun
set_option linter.unusedVariables false
set_option linter.unusedSimpArgs false
set_option maxRecDepth 100000
namespace Go.Proofs.YtipmgemnjcjobaaGreat
open Aw

theorem wl_Choices (x : GChoices) : wChoices x ≤ 4 * Siz.size x + 4 := by
  rw [size_Choices]
  unfold wChoices
  have h0 := (fun y : List Int => (by have := Siz.len_le y; (try dsimp only); omega : (fun xs : List Int => 1 * xs.length) y ≤ 4 * Siz.size y)) x.starts
  have h1 := (fun y : List Bool => (by have := Siz.len_le y; (try dsimp only); omega : (fun xs : List Bool => 1 * xs.length) y ≤ 4 * Siz.size y)) x.accept
  have h2 := (sumW_le4 (W := (sumW (fun xs : List GPush => 2 * xs.length))) (fun y => by have := (sumW_le4 (W := (fun xs : List GPush => 2 * xs.length)) (fun y => by have := (fun y : List GPush => (by have := Siz.len_le y; (try dsimp only); omega : (fun xs : List GPush => 2 * xs.length) y ≤ 4 * Siz.size y)) y; (try dsimp only at *); omega)) y; (try dsimp only at *); omega)) x.call
  have h3 := (sumW_le4 (W := (sumW (sumW (fun xs : List Int => 1 * xs.length)))) (fun y => by have := (sumW_le4 (W := (sumW (fun xs : List Int => 1 * xs.length))) (fun y => by have := (sumW_le4 (W := (fun xs : List Int => 1 * xs.length)) (fun y => by have := (fun y : List Int => (by have := Siz.len_le y; (try dsimp only); omega : (fun xs : List Int => 1 * xs.length) y ≤ 4 * Siz.size y)) y; (try dsimp only at *); omega)) y; (try dsimp only at *); omega)) y; (try dsimp only at *); omega)) x.ret
  have h4 := (sumW_le4 (W := (sumW (fun xs : List Int => 1 * xs.length))) (fun y => by have := (sumW_le4 (W := (fun xs : List Int => 1 * xs.length)) (fun y => by have := (fun y : List Int => (by have := Siz.len_le y; (try dsimp only); omega : (fun xs : List Int => 1 * xs.length) y ≤ 4 * Siz.size y)) y; (try dsimp only at *); omega)) y; (try dsimp only at *); omega)) x.inner
  (try dsimp only at *)
  omega
@[simp] abbrev sh_Choices : Sh := (.agg [.any, (.lst 1 .any), (.lst 1 .any), (.lst 1 (.lst 1 (.lst 2 .any))), (.lst 1 (.lst 1 (.lst 1 (.lst 1 .any)))), (.lst 1 (.lst 1 (.lst 1 .any)))])
theorem dp_Choices : Own.dep (GChoices) ≤ 9 := by decide
abbrev wq_Choices (x : GChoices) : Nat := wChoices x
abbrev mq_Choices : GChoices → Int → GChoices := mkChoices
theorem wb_Choices (x : GChoices) : wq_Choices x ≤ 4 * Siz.size x + 4 := wl_Choices x
theorem eqq_Choices (x : GChoices) (h : Siz.size x ≤ 1048576) : ev fns i_laws_eqChoices [Enc.pv x, Enc.pv x] [] = some (bol true, []) := by have := ev_laws_eqChoices x x h; simpa using this
theorem mrk_Choices : MarkC (α := GChoices) fns i_laws_markChoices wq_Choices mq_Choices := markC_Choices
theorem dec_Choices {σ : List AObj} {ids : List Nat} {p : PV} {x : GChoices} (h : OwnIn σ ids p x) : ∃ r1 r2 r3 r4 r5, p = .agg [(i64 x.stack), r1, r2, r3, r4, r5] ∧ r1.one = true ∧ r2.one = true ∧ r3.one = true ∧ r4.one = true ∧ r5.one = true := by
  obtain ⟨i0, r0, i1, r1, i2, r2, i3, r3, i4, r4, i5, r5, _, rfl, ⟨_, rfl⟩, h1, h2, h3, h4, h5⟩ := own_Choices.1 h.own
  exact ⟨r1, r2, r3, r4, r5, by simp, (own_one h1).2.2.2, (own_one h2).2.2.2, (own_one h3).2.2.2, (own_one h4).2.2.2, (own_one h5).2.2.2⟩
@[simp] abbrev sh_Int64SS : Sh := (.lst 1 (.lst 1 .any))
theorem dp_Int64SS : Own.dep (List (List Int)) ≤ 9 := by decide
def wq_Int64SS (x : List (List Int)) : Nat := (sumW (fun xs : List Int => 1 * xs.length)) x
def mq_Int64SS : List (List Int) → Int → List (List Int) := (mkL (fun xs : List Int => 1 * xs.length) (mkF 1 (fun k => k)))
theorem wb_Int64SS (x : List (List Int)) : wq_Int64SS x ≤ 4 * Siz.size x + 4 := by have := (sumW_le4 (W := (fun xs : List Int => 1 * xs.length)) (fun y => by have := (fun y : List Int => (by have := Siz.len_le y; (try dsimp only); omega : (fun xs : List Int => 1 * xs.length) y ≤ 4 * Siz.size y)) y; (try dsimp only at *); omega)) x; unfold wq_Int64SS; (try dsimp only at *); omega
theorem eqq_Int64SS (x : List (List Int)) (h : Siz.size x ≤ 1048576) : ev fns i_laws_eqInt64SS [Enc.pv x, Enc.pv x] [] = some (bol true, []) := by have := ev_laws_eqInt64SS x x h; simpa using this
theorem mrk_Int64SS : MarkC (α := List (List Int)) fns i_laws_markInt64SS wq_Int64SS mq_Int64SS := markC_Int64SS
theorem hld_Int64SS : HeldC (α := List (List Int)) fns i_laws_heldInt64SS wq_Int64SS mq_Int64SS := heldC_Int64SS
theorem dcf_Int64SS {q : PV} {x : List (List Int)} (h : PV.ty sh_Int64SS q = Enc.pv x) : (∀ σ, dfr σ 9 q = some q) ∧ q.one = true := by
  have k := ty_lst_inv h
  exact ⟨fun σ => k.2.1 σ 8, k.1⟩
set_option maxHeartbeats 16000000 in
theorem ev_FnExactPairsOf (a : GChoices) (w : ByteArray) (fa : Siz.fits a) (fw : Siz.fits w) : ev fns i_laws_FnExactPairsOf [a.v, str w] [] = some (bol true, []) := by
  refine go_laws_FnExactPairsOf (by simp) ?_
  by_cases cw : (w.size : Int) ≤ 1048576
  · skip
    have ea := ev_laws_szChoices a (1048576) (by omega) (by omega) fa
    by_cases ca : (Siz.size a : Int) ≤ 1048576
    · skip
      rw [szR_ok ca] at ea
      have sa := fun σ => callN_lone (σ := σ) (by simp [PV.bels]) ea (by simp)
      simp [-callN, -callT] at sa
      have ha : Siz.size a ≤ 1048576 := by omega
      have wba := wb_Choices a
      have hw : w.size ≤ 1048576 := by omega
      have hL := leC_PairsOf a ha w hw
      have wbR := wb_Int64SS (prA a w).1
      generalize hX : (prA a w).1 = X at *
      obtain ⟨Q, eQ, bQ, yQ⟩ := spC_PairsOf a ha w hw
      rw [hX] at yQ
      obtain ⟨qa, ba, ya, za⟩ := lw_cz toC_Choices a ha dp_Choices (fun r h => by simp [-callN, -callT] at h ⊢; exact h)
      replace ya : PV.ty sh_Choices qa = a.v := ya
      have sQ := fun σ => callT_loneT (σ := σ) (fns := fns) (f := i_spec_PairsOf) (ss := [sh_Choices, .any]) (args := [qa, str w]) (by simp [PV.bels, ba]) (by simp only [PV.tys, ya]; (try rfl)) eQ (by simp [PV.bels, bQ])
      obtain ⟨dQ, kQ⟩ := dcf_Int64SS yQ
      obtain ⟨P1, σ1, ids1, a1, o1, d1, g1, e1⟩ := lw_to toC_Choices a ha ([] : List AObj) Good.nil
      have r1 : ∀ i ∈ ids1, (([] : List AObj)).length ≤ i ∧ i < σ1.length := fun i hi => ⟨d1 i hi, o1.lt i hi⟩
      (try simp only [List.length_append, List.length_cons, List.length_nil, Nat.zero_add] at r1)
      have l1 := e1.len
      (try simp only [List.length_append, List.length_cons, List.length_nil, Nat.zero_add] at l1)
      obtain ⟨w1_1, w1_2, w1_3, w1_4, w1_5, hP1, kw1_1, kw1_2, kw1_3, kw1_4, kw1_5⟩ := dec_Choices o1
      have bb2 := o1.bel
      have g2 : Good (σ1 ++ [AObj.row 6 [P1] 0]) := Good.snoc g1 (by simp only [PV.bels, bb2, Bool.and_true])
      have e2 := Ext.snoc (σ1) (AObj.row 6 [P1] 0)
      replace o1 := e2.own o1
      have l2 := e2.len
      (try simp only [List.length_append, List.length_cons, List.length_nil, Nat.zero_add] at l2)
      have u2 : (σ1 ++ [AObj.row 6 [P1] 0])[σ1.length]? = some (AObj.row 6 [P1] 0) := by simp
      obtain ⟨p3, τ3, is3, eI3, oI3, gI3⟩ := imC_PairsOf a ha w hw
      rw [hX] at oI3
      obtain ⟨m1, dm1, ym1⟩ := o1.read dp_Choices
      replace ym1 : PV.ty sh_Choices m1 = a.v := ym1
      obtain ⟨P3, σ3, ids3, a3, o3, d3, g3, e3⟩ := lw_impl (f := i_impl_PairsOf) (ss := [sh_Choices, .any]) (args := [P1, str w]) (qs := [m1, str w]) [] [i64 (prA a w).2] eI3 oI3 gI3 (by simp [PV.bels, PV.nls, PV.nl]) (by simp [PV.bels, PV.nls, PV.nl]) (σ := (σ1 ++ [AObj.row 6 [P1] 0])) (by simp only [mapO, dm1]; (try simp [dfr])) (by simp only [PV.tys, ym1]; (try rfl)) g2
      have r3 : ∀ i ∈ ids3, ((σ1 ++ [AObj.row 6 [P1] 0])).length ≤ i ∧ i < σ3.length := fun i hi => ⟨d3 i hi, o3.lt i hi⟩
      (try simp only [List.length_append, List.length_cons, List.length_nil, Nat.zero_add] at r3)
      replace o1 := e3.own o1
      replace u2 := e3.get u2
      have l3 := e3.len
      (try simp only [List.length_append, List.length_cons, List.length_nil, Nat.zero_add] at l3)
      have u2_3 := u2
      have u2_3 := u2
      have q1_ := lw_eqL (f := i_laws_eqInt64SS) dp_Int64SS o3 yQ (dQ _) (eqq_Int64SS X hL)
      replace q1_ : callT fns [sh_Int64SS, sh_Int64SS] i_laws_eqInt64SS [P3, Q] σ3 = some (bol true, σ3) := q1_
      obtain ⟨P4, σ4, ids4, a4, o4, d4, g4, e4⟩ := lw_to toC_Choices a ha σ3 g3
      have r4 : ∀ i ∈ ids4, (σ3).length ≤ i ∧ i < σ4.length := fun i hi => ⟨d4 i hi, o4.lt i hi⟩
      (try simp only [List.length_append, List.length_cons, List.length_nil, Nat.zero_add] at r4)
      replace o1 := e4.own o1
      replace u2 := e4.get u2
      replace o3 := e4.own o3
      have l4 := e4.len
      (try simp only [List.length_append, List.length_cons, List.length_nil, Nat.zero_add] at l4)
      have u2_4 := u2
      have q2_ := lw_eq2 (f := i_laws_eqChoices) dp_Choices o1 o4 (eqq_Choices a ha)
      replace q2_ : callT fns [sh_Choices, sh_Choices] i_laws_eqChoices [P1, P4] σ4 = some (bol true, σ4) := q2_
      obtain ⟨σ5, a5, o5, g5, e5⟩ := lw_mark mrk_Choices (1) o1 g4 (by omega) (by omega)
      replace u2 := e5.get (fun hj => by have := r1 _ hj; (try simp only [List.length_append, List.length_cons, List.length_nil, Nat.zero_add] at this); omega) u2
      replace o3 := e5.own o3 (fun i hi hj => by have := r3 i hi; have := r1 i hj; omega)
      have l5 := e5.1
      have u2_5 := u2
      have q3_ := lw_eqL (f := i_laws_eqInt64SS) dp_Int64SS o3 yQ (dQ _) (eqq_Int64SS X hL)
      replace q3_ : callT fns [sh_Int64SS, sh_Int64SS] i_laws_eqInt64SS [P3, Q] σ5 = some (bol true, σ5) := q3_
      obtain ⟨σ6, a6, o6, g6, e6⟩ := lw_mark mrk_Int64SS (1) o3 g5 (by omega) (by omega)
      replace u2 := e6.get (fun hj => by have := r3 _ hj; (try simp only [List.length_append, List.length_cons, List.length_nil, Nat.zero_add] at this); omega) u2
      have l6 := e6.1
      have u2_6 := u2
      have q4_ := lw_held hld_Int64SS dp_Int64SS 1 o6 (by omega) (by omega)
      replace q4_ : callT fns [sh_Int64SS, .any] i_laws_heldInt64SS [P3, i64 1] σ6 = some (i64 (1 + wq_Int64SS X), σ6) := q4_
      obtain ⟨P7, σ7, ids7, a7, o7, d7, g7, e7⟩ := lw_to toC_Choices a ha σ6 g6
      have r7 : ∀ i ∈ ids7, (σ6).length ≤ i ∧ i < σ7.length := fun i hi => ⟨d7 i hi, o7.lt i hi⟩
      (try simp only [List.length_append, List.length_cons, List.length_nil, Nat.zero_add] at r7)
      replace u2 := e7.get u2
      replace o6 := e7.own o6
      have l7 := e7.len
      (try simp only [List.length_append, List.length_cons, List.length_nil, Nat.zero_add] at l7)
      have u2_7 := u2
      obtain ⟨p8, τ8, is8, eI8, oI8, gI8⟩ := imC_PairsOf a ha w hw
      rw [hX] at oI8
      obtain ⟨m7, dm7, ym7⟩ := o7.read dp_Choices
      replace ym7 : PV.ty sh_Choices m7 = a.v := ym7
      obtain ⟨P8, σ8, ids8, a8, o8, d8, g8, e8⟩ := lw_impl (f := i_impl_PairsOf) (ss := [sh_Choices, .any]) (args := [P7, str w]) (qs := [m7, str w]) [] [i64 (prA a w).2] eI8 oI8 gI8 (by simp [PV.bels, PV.nls, PV.nl]) (by simp [PV.bels, PV.nls, PV.nl]) (σ := σ7) (by simp only [mapO, dm7]; (try simp [dfr])) (by simp only [PV.tys, ym7]; (try rfl)) g7
      have r8 : ∀ i ∈ ids8, (σ7).length ≤ i ∧ i < σ8.length := fun i hi => ⟨d8 i hi, o8.lt i hi⟩
      (try simp only [List.length_append, List.length_cons, List.length_nil, Nat.zero_add] at r8)
      replace u2 := e8.get u2
      replace o6 := e8.own o6
      replace o7 := e8.own o7
      have l8 := e8.len
      (try simp only [List.length_append, List.length_cons, List.length_nil, Nat.zero_add] at l8)
      have u2_8 := u2
      have u2_8 := u2
      have q5_ := lw_eqL (f := i_laws_eqInt64SS) dp_Int64SS o8 yQ (dQ _) (eqq_Int64SS X hL)
      replace q5_ : callT fns [sh_Int64SS, sh_Int64SS] i_laws_eqInt64SS [P8, Q] σ8 = some (bol true, σ8) := q5_
      have q6_ := lw_held hld_Int64SS dp_Int64SS 1 o6 (by omega) (by omega)
      replace q6_ : callT fns [sh_Int64SS, .any] i_laws_heldInt64SS [P3, i64 1] σ8 = some (i64 (1 + wq_Int64SS X), σ8) := q6_
      unfold Good at g1 g2 g3 g4 g5 g6 g7 g8
      have w0 : ¬ (((1 : Int) + wq_Choices a : Int) < 0) := by omega
      have w1 : ¬ ((1 : Int) + (wq_Int64SS X : Nat) < 0) := by omega
      subst hP1
      simp [-callN, -callT] at za sQ kQ a1 kw1_1 kw1_2 kw1_3 kw1_4 kw1_5 a3 u2_3 u2_3 q1_ a4 u2_4 q2_ a5 u2_5 q3_ a6 u2_6 q4_ a7 u2_7 a8 u2_8 u2_8 q5_ q6_
      simp (config := { maxSteps := 2000000 }) [-callN, -callT, ac_laws_FnExactPairsOf, cw, show ¬ 1048576 < (w.size : Int) by omega, show ¬ 1048576 < w.size by omega, sa, show ¬ (((1048576 : Int) - Siz.size a : Int) < 0) by omega, za, sQ, kQ, a1, kw1_1, kw1_2, kw1_3, kw1_4, kw1_5, a3, u2_3, u2_3, q1_, a4, u2_4, q2_, a5, u2_5, q3_, a6, u2_6, q4_, a7, u2_7, a8, u2_8, u2_8, q5_, q6_, g1, g2, g3, g4, g5, g6, g7, g8, w0, w1]
    · rw [szR_no (by omega)] at ea
      have sa := fun σ => callN_lone (σ := σ) (by simp [PV.bels]) ea (by simp)
      simp [-callN, -callT] at sa
      simp [-callN, -callT, ac_laws_FnExactPairsOf, cw, show ¬ 1048576 < (w.size : Int) by omega, show ¬ 1048576 < w.size by omega, sa]
  · simp [ac_laws_FnExactPairsOf, show 1048576 < (w.size : Int) by omega, show 1048576 < w.size by omega]
end Go.Proofs.YtipmgemnjcjobaaGreat
