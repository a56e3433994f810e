/- The law FnExactRewriteOn, run: out of what the program's function and the reference's return; printed by a program (lw.py). -/
import Derived.Test.YtjfpmpbdbpgofaaLwC
import Derived.Test.YtjfpmpbdbpgofaaRwOn
set_option linter.unusedVariables false
set_option linter.unusedSimpArgs false
set_option maxRecDepth 100000
namespace Go.Proofs.Ytjfpmpbdbpgofaa
open Aw

theorem wl_Rewriter (x : GRewriter) : wRewriter x ≤ 4 * Siz.size x + 4 := by
  rw [size_Rewriter]
  unfold wRewriter
  have h0 := (sumW_le4 (W := (fun xs : List GOutPush => 3 * xs.length)) (fun y => by have := (fun y : List GOutPush => (by have := Siz.len_le y; (try dsimp only); omega : (fun xs : List GOutPush => 3 * xs.length) y ≤ 4 * Siz.size y)) y; (try dsimp only at *); omega)) x.call
  have h1 := (sumW_le4 (W := (sumW (fun xs : List GOutMove => 2 * xs.length))) (fun y => by have := (sumW_le4 (W := (fun xs : List GOutMove => 2 * xs.length)) (fun y => by have := (fun y : List GOutMove => (by have := Siz.len_le y; (try dsimp only); omega : (fun xs : List GOutMove => 2 * xs.length) y ≤ 4 * Siz.size y)) y; (try dsimp only at *); omega)) y; (try dsimp only at *); omega)) x.ret
  have h2 := (sumW_le4 (W := (fun xs : List GOutMove => 2 * xs.length)) (fun y => by have := (fun y : List GOutMove => (by have := Siz.len_le y; (try dsimp only); omega : (fun xs : List GOutMove => 2 * xs.length) y ≤ 4 * Siz.size y)) y; (try dsimp only at *); omega)) x.inner
  (try dsimp only at *)
  omega
@[simp] abbrev sh_Rewriter : Sh := (.agg [.any, .any, (.lst 1 (.lst 3 .any)), (.lst 1 (.lst 1 (.lst 2 .any))), (.lst 1 (.lst 2 .any))])
theorem dp_Rewriter : Own.dep (GRewriter) ≤ 9 := by decide
abbrev wq_Rewriter (x : GRewriter) : Nat := wRewriter x
abbrev mq_Rewriter : GRewriter → Int → GRewriter := mkRewriter
theorem wb_Rewriter (x : GRewriter) : wq_Rewriter x ≤ 4 * Siz.size x + 4 := wl_Rewriter x
theorem eqq_Rewriter (x : GRewriter) (h : Siz.size x ≤ 1048576) : ev fns i_laws_eqRewriter [Enc.pv x, Enc.pv x] [] = some (bol true, []) := by have := ev_laws_eqRewriter x x h; simpa using this
theorem mrk_Rewriter : MarkC (α := GRewriter) fns i_laws_markRewriter wq_Rewriter mq_Rewriter := markC_Rewriter
theorem dec_Rewriter {σ : List AObj} {ids : List Nat} {p : PV} {x : GRewriter} (h : OwnIn σ ids p x) : ∃ r2 r3 r4, p = .agg [(i64 x.stack), (i64 x.start), r2, r3, r4] ∧ r2.one = true ∧ r3.one = true ∧ r4.one = true := by
  obtain ⟨i0, r0, i1, r1, i2, r2, i3, r3, i4, r4, _, rfl, ⟨_, rfl⟩, ⟨_, rfl⟩, h2, h3, h4⟩ := own_Rewriter.1 h.own
  exact ⟨r2, r3, r4, by simp, (own_one h2).2.2.2, (own_one h3).2.2.2, (own_one h4).2.2.2⟩
@[simp] abbrev sh_Int64S : Sh := (.lst 1 .any)
theorem dp_Int64S : Own.dep (List Int) ≤ 9 := by decide
def wq_Int64S (x : List Int) : Nat := (fun xs : List Int => 1 * xs.length) x
def mq_Int64S : List Int → Int → List Int := (mkF 1 (fun k => k))
theorem wb_Int64S (x : List Int) : wq_Int64S x ≤ 4 * Siz.size x + 4 := by have := (fun y : List Int => (by have := Siz.len_le y; (try dsimp only); omega : (fun xs : List Int => 1 * xs.length) y ≤ 4 * Siz.size y)) x; unfold wq_Int64S; (try dsimp only at *); omega
theorem eqq_Int64S (x : List Int) (h : Siz.size x ≤ 1048576) : ev fns i_laws_eqInt64S [Enc.pv x, Enc.pv x] [] = some (bol true, []) := by have := ev_laws_eqInt64S x x h; simpa using this
theorem mrk_Int64S : MarkC (α := List Int) fns i_laws_markInt64S wq_Int64S mq_Int64S := markC_Int64S
theorem hld_Int64S : HeldC (α := List Int) fns i_laws_heldInt64S wq_Int64S mq_Int64S := heldC_Int64S
theorem dcf_Int64S {q : PV} {x : List Int} (h : PV.ty sh_Int64S q = Enc.pv x) : (∀ σ, dfr σ 9 q = some q) ∧ q.one = true := by
  have k := ty_lst_inv h
  exact ⟨fun σ => k.2.1 σ 8, k.1⟩
set_option maxHeartbeats 16000000 in
theorem ev_FnExactRewriteOn (a : GRewriter) (q : Int) (st : List Int) (w : ByteArray) (fa : Siz.fits a) (fq : Siz.fits q) (fst : Siz.fits st) (fw : Siz.fits w) : ev fns i_laws_FnExactRewriteOn [a.v, i64 q, lst 1 st, str w] [] = some (bol true, []) := by
  refine go_laws_FnExactRewriteOn (by simp) ?_
  by_cases cst : (st.length : Int) ≤ 1048576
  · skip
    by_cases cw : (w.size : Int) ≤ 1048576
    · skip
      have ea := ev_laws_szRewriter a (1048576) (by omega) (by omega) fa
      by_cases ca : (Siz.size a : Int) ≤ 1048576
      · skip
        rw [szR_ok ca] at ea
        have sa := fun σ => callN_lone (σ := σ) (by simp [PV.bels]) ea (by simp)
        simp [-callN, -callT] at sa
        have ha : Siz.size a ≤ 1048576 := by omega
        have wba := wb_Rewriter a
        have hst : Siz.size st ≤ 1048576 := by rw [Siz.size_flat_int]; omega
        have wbst := wb_Int64S st
        have hw : w.size ≤ 1048576 := by omega
        have hL := leC_RewriteOn a ha q st hst w hw
        have wbR := wb_Int64S (onR a q st w).1.2.1
        generalize hX : (onR a q st w).1.2.1 = X at *
        obtain ⟨Q, eQ, bQ, yQ⟩ := spC_RewriteOn a ha q st hst w hw
        rw [hX] at yQ
        obtain ⟨qa, ba, ya, za⟩ := lw_cz toC_Rewriter a ha dp_Rewriter (fun r h => by simp [-callN, -callT] at h ⊢; exact h)
        replace ya : PV.ty sh_Rewriter qa = a.v := ya
        obtain ⟨qst, bst, yst, zst⟩ := lw_cz toC_Int64S st hst dp_Int64S (fun r h => by simp [-callN, -callT] at h ⊢; exact h)
        replace yst : PV.ty sh_Int64S qst = lst 1 st := yst
        have sQ := fun σ => callT_loneT (σ := σ) (fns := fns) (f := i_spec_RewriteOn) (ss := [sh_Rewriter, .any, sh_Int64S, .any]) (args := [qa, i64 q, qst, str w]) (by simp [PV.bels, ba, bst]) (by simp only [PV.tys, ya, yst]; (try rfl)) eQ (by simp [PV.bels, bQ])
        obtain ⟨dQ, kQ⟩ := dcf_Int64S yQ
        obtain ⟨P1, σ1, ids1, a1, o1, d1, g1, e1⟩ := lw_to toC_Rewriter a ha ([] : List AObj) Good.nil
        have r1 : ∀ i ∈ ids1, (([] : List AObj)).length ≤ i ∧ i < σ1.length := fun i hi => ⟨d1 i hi, o1.lt i hi⟩
        (try simp only [List.length_append, List.length_cons, List.length_nil, Nat.zero_add] at r1)
        have l1 := e1.len
        (try simp only [List.length_append, List.length_cons, List.length_nil, Nat.zero_add] at l1)
        obtain ⟨w1_2, w1_3, w1_4, hP1, kw1_2, kw1_3, kw1_4⟩ := dec_Rewriter o1
        have bb2 := o1.bel
        have g2 : Good (σ1 ++ [AObj.row 5 [P1] 0]) := Good.snoc g1 (by simp only [PV.bels, bb2, Bool.and_true])
        have e2 := Ext.snoc (σ1) (AObj.row 5 [P1] 0)
        replace o1 := e2.own o1
        have l2 := e2.len
        (try simp only [List.length_append, List.length_cons, List.length_nil, Nat.zero_add] at l2)
        have u2 : (σ1 ++ [AObj.row 5 [P1] 0])[σ1.length]? = some (AObj.row 5 [P1] 0) := by simp
        obtain ⟨P3, σ3, ids3, a3, o3, d3, g3, e3⟩ := lw_to toC_Int64S st hst (σ1 ++ [AObj.row 5 [P1] 0]) g2
        have r3 : ∀ i ∈ ids3, ((σ1 ++ [AObj.row 5 [P1] 0])).length ≤ i ∧ i < σ3.length := fun i hi => ⟨d3 i hi, o3.lt i hi⟩
        (try simp only [List.length_append, List.length_cons, List.length_nil, Nat.zero_add] at r3)
        replace o1 := e3.own o1
        replace u2 := e3.get u2
        have l3 := e3.len
        (try simp only [List.length_append, List.length_cons, List.length_nil, Nat.zero_add] at l3)
        have u2_3 := u2
        obtain ⟨p4, τ4, is4, eI4, oI4, gI4⟩ := imC_RewriteOn a ha q st hst w hw
        rw [hX] at oI4
        obtain ⟨m1, dm1, ym1⟩ := o1.read dp_Rewriter
        replace ym1 : PV.ty sh_Rewriter m1 = a.v := ym1
        obtain ⟨m3, dm3, ym3⟩ := o3.read dp_Int64S
        replace ym3 : PV.ty sh_Int64S m3 = lst 1 st := ym3
        obtain ⟨P4, σ4, ids4, a4, o4, d4, g4, e4⟩ := lw_impl (f := i_impl_RewriteOn) (ss := [sh_Rewriter, .any, sh_Int64S, .any]) (args := [P1, i64 q, P3, str w]) (qs := [m1, i64 q, m3, str w]) [i64 (onR a q st w).1.1] [str (onR a q st w).1.2.2, i64 (onR a q st w).2] eI4 oI4 gI4 (by simp [PV.bels, PV.nls, PV.nl]) (by simp [PV.bels, PV.nls, PV.nl]) (σ := σ3) (by simp only [mapO, dm1, dm3]; (try simp [dfr])) (by simp only [PV.tys, ym1, ym3]; (try rfl)) g3
        have r4 : ∀ i ∈ ids4, (σ3).length ≤ i ∧ i < σ4.length := fun i hi => ⟨d4 i hi, o4.lt i hi⟩
        (try simp only [List.length_append, List.length_cons, List.length_nil, Nat.zero_add] at r4)
        replace o1 := e4.own o1
        replace u2 := e4.get u2
        replace o3 := e4.own o3
        have l4 := e4.len
        (try simp only [List.length_append, List.length_cons, List.length_nil, Nat.zero_add] at l4)
        have u2_4 := u2
        have u2_4 := u2
        have q1_ := lw_eqL (f := i_laws_eqInt64S) dp_Int64S o4 yQ (dQ _) (eqq_Int64S X hL)
        replace q1_ : callT fns [sh_Int64S, sh_Int64S] i_laws_eqInt64S [P4, Q] σ4 = some (bol true, σ4) := q1_
        obtain ⟨P5, σ5, ids5, a5, o5, d5, g5, e5⟩ := lw_to toC_Rewriter a ha σ4 g4
        have r5 : ∀ i ∈ ids5, (σ4).length ≤ i ∧ i < σ5.length := fun i hi => ⟨d5 i hi, o5.lt i hi⟩
        (try simp only [List.length_append, List.length_cons, List.length_nil, Nat.zero_add] at r5)
        replace o1 := e5.own o1
        replace u2 := e5.get u2
        replace o3 := e5.own o3
        replace o4 := e5.own o4
        have l5 := e5.len
        (try simp only [List.length_append, List.length_cons, List.length_nil, Nat.zero_add] at l5)
        have u2_5 := u2
        have q2_ := lw_eq2 (f := i_laws_eqRewriter) dp_Rewriter o1 o5 (eqq_Rewriter a ha)
        replace q2_ : callT fns [sh_Rewriter, sh_Rewriter] i_laws_eqRewriter [P1, P5] σ5 = some (bol true, σ5) := q2_
        obtain ⟨P6, σ6, ids6, a6, o6, d6, g6, e6⟩ := lw_to toC_Int64S st hst σ5 g5
        have r6 : ∀ i ∈ ids6, (σ5).length ≤ i ∧ i < σ6.length := fun i hi => ⟨d6 i hi, o6.lt i hi⟩
        (try simp only [List.length_append, List.length_cons, List.length_nil, Nat.zero_add] at r6)
        replace o1 := e6.own o1
        replace u2 := e6.get u2
        replace o3 := e6.own o3
        replace o4 := e6.own o4
        have l6 := e6.len
        (try simp only [List.length_append, List.length_cons, List.length_nil, Nat.zero_add] at l6)
        have u2_6 := u2
        have q3_ := lw_eq2 (f := i_laws_eqInt64S) dp_Int64S o3 o6 (eqq_Int64S st hst)
        replace q3_ : callT fns [sh_Int64S, sh_Int64S] i_laws_eqInt64S [P3, P6] σ6 = some (bol true, σ6) := q3_
        obtain ⟨σ7, a7, o7, g7, e7⟩ := lw_mark mrk_Rewriter (1) o1 g6 (by omega) (by omega)
        replace u2 := e7.get (fun hj => by have := r1 _ hj; (try simp only [List.length_append, List.length_cons, List.length_nil, Nat.zero_add] at this); omega) u2
        replace o3 := e7.own o3 (fun i hi hj => by have := r3 i hi; have := r1 i hj; omega)
        replace o4 := e7.own o4 (fun i hi hj => by have := r4 i hi; have := r1 i hj; omega)
        have l7 := e7.1
        have u2_7 := u2
        obtain ⟨σ8, a8, o8, g8, e8⟩ := lw_mark mrk_Int64S (1 + wq_Rewriter a) o3 g7 (by omega) (by omega)
        replace u2 := e8.get (fun hj => by have := r3 _ hj; (try simp only [List.length_append, List.length_cons, List.length_nil, Nat.zero_add] at this); omega) u2
        replace o4 := e8.own o4 (fun i hi hj => by have := r4 i hi; have := r3 i hj; omega)
        have l8 := e8.1
        have u2_8 := u2
        have q4_ := lw_eqL (f := i_laws_eqInt64S) dp_Int64S o4 yQ (dQ _) (eqq_Int64S X hL)
        replace q4_ : callT fns [sh_Int64S, sh_Int64S] i_laws_eqInt64S [P4, Q] σ8 = some (bol true, σ8) := q4_
        obtain ⟨σ9, a9, o9, g9, e9⟩ := lw_mark mrk_Int64S (1) o4 g8 (by omega) (by omega)
        replace u2 := e9.get (fun hj => by have := r4 _ hj; (try simp only [List.length_append, List.length_cons, List.length_nil, Nat.zero_add] at this); omega) u2
        have l9 := e9.1
        have u2_9 := u2
        have q5_ := lw_held hld_Int64S dp_Int64S 1 o9 (by omega) (by omega)
        replace q5_ : callT fns [sh_Int64S, .any] i_laws_heldInt64S [P4, i64 1] σ9 = some (i64 (1 + wq_Int64S X), σ9) := q5_
        obtain ⟨P10, σ10, ids10, a10, o10, d10, g10, e10⟩ := lw_to toC_Rewriter a ha σ9 g9
        have r10 : ∀ i ∈ ids10, (σ9).length ≤ i ∧ i < σ10.length := fun i hi => ⟨d10 i hi, o10.lt i hi⟩
        (try simp only [List.length_append, List.length_cons, List.length_nil, Nat.zero_add] at r10)
        replace u2 := e10.get u2
        replace o9 := e10.own o9
        have l10 := e10.len
        (try simp only [List.length_append, List.length_cons, List.length_nil, Nat.zero_add] at l10)
        have u2_10 := u2
        obtain ⟨P11, σ11, ids11, a11, o11, d11, g11, e11⟩ := lw_to toC_Int64S st hst σ10 g10
        have r11 : ∀ i ∈ ids11, (σ10).length ≤ i ∧ i < σ11.length := fun i hi => ⟨d11 i hi, o11.lt i hi⟩
        (try simp only [List.length_append, List.length_cons, List.length_nil, Nat.zero_add] at r11)
        replace u2 := e11.get u2
        replace o9 := e11.own o9
        replace o10 := e11.own o10
        have l11 := e11.len
        (try simp only [List.length_append, List.length_cons, List.length_nil, Nat.zero_add] at l11)
        have u2_11 := u2
        obtain ⟨p12, τ12, is12, eI12, oI12, gI12⟩ := imC_RewriteOn a ha q st hst w hw
        rw [hX] at oI12
        obtain ⟨m10, dm10, ym10⟩ := o10.read dp_Rewriter
        replace ym10 : PV.ty sh_Rewriter m10 = a.v := ym10
        obtain ⟨m11, dm11, ym11⟩ := o11.read dp_Int64S
        replace ym11 : PV.ty sh_Int64S m11 = lst 1 st := ym11
        obtain ⟨P12, σ12, ids12, a12, o12, d12, g12, e12⟩ := lw_impl (f := i_impl_RewriteOn) (ss := [sh_Rewriter, .any, sh_Int64S, .any]) (args := [P10, i64 q, P11, str w]) (qs := [m10, i64 q, m11, str w]) [i64 (onR a q st w).1.1] [str (onR a q st w).1.2.2, i64 (onR a q st w).2] eI12 oI12 gI12 (by simp [PV.bels, PV.nls, PV.nl]) (by simp [PV.bels, PV.nls, PV.nl]) (σ := σ11) (by simp only [mapO, dm10, dm11]; (try simp [dfr])) (by simp only [PV.tys, ym10, ym11]; (try rfl)) g11
        have r12 : ∀ i ∈ ids12, (σ11).length ≤ i ∧ i < σ12.length := fun i hi => ⟨d12 i hi, o12.lt i hi⟩
        (try simp only [List.length_append, List.length_cons, List.length_nil, Nat.zero_add] at r12)
        replace u2 := e12.get u2
        replace o9 := e12.own o9
        replace o10 := e12.own o10
        replace o11 := e12.own o11
        have l12 := e12.len
        (try simp only [List.length_append, List.length_cons, List.length_nil, Nat.zero_add] at l12)
        have u2_12 := u2
        have u2_12 := u2
        have q6_ := lw_eqL (f := i_laws_eqInt64S) dp_Int64S o12 yQ (dQ _) (eqq_Int64S X hL)
        replace q6_ : callT fns [sh_Int64S, sh_Int64S] i_laws_eqInt64S [P12, Q] σ12 = some (bol true, σ12) := q6_
        have q7_ := lw_held hld_Int64S dp_Int64S 1 o9 (by omega) (by omega)
        replace q7_ : callT fns [sh_Int64S, .any] i_laws_heldInt64S [P4, i64 1] σ12 = some (i64 (1 + wq_Int64S X), σ12) := q7_
        unfold Good at g1 g2 g3 g4 g5 g6 g7 g8 g9 g10 g11 g12
        have w0 : ¬ (((1 : Int) + wq_Rewriter a + wq_Int64S st : Int) < 0) := by omega
        have w1 : ¬ ((1 : Int) + (wq_Int64S X : Nat) < 0) := by omega
        subst hP1
        simp [-callN, -callT] at za zst sQ kQ a1 kw1_2 kw1_3 kw1_4 a3 u2_3 a4 u2_4 u2_4 q1_ a5 u2_5 q2_ a6 u2_6 q3_ a7 u2_7 a8 u2_8 q4_ a9 u2_9 q5_ a10 u2_10 a11 u2_11 a12 u2_12 u2_12 q6_ q7_
        simp (config := { maxSteps := 2000000 }) [-callN, -callT, ac_laws_FnExactRewriteOn, cst, show ¬ 1048576 < (st.length : Int) by omega, show ¬ 1048576 < st.length by omega, cw, show ¬ 1048576 < (w.size : Int) by omega, show ¬ 1048576 < w.size by omega, sa, show ¬ (((1048576 : Int) - Siz.size a : Int) < 0) by omega, za, zst, sQ, kQ, a1, kw1_2, kw1_3, kw1_4, a3, u2_3, a4, u2_4, u2_4, q1_, a5, u2_5, q2_, a6, u2_6, q3_, a7, u2_7, a8, u2_8, q4_, a9, u2_9, q5_, a10, u2_10, a11, u2_11, a12, u2_12, u2_12, q6_, q7_, g1, g2, g3, g4, g5, g6, g7, g8, g9, g10, g11, g12, w0, w1]
      · rw [szR_no (by omega)] at ea
        have sa := fun σ => callN_lone (σ := σ) (by simp [PV.bels]) ea (by simp)
        simp [-callN, -callT] at sa
        simp [-callN, -callT, ac_laws_FnExactRewriteOn, cst, show ¬ 1048576 < (st.length : Int) by omega, show ¬ 1048576 < st.length by omega, cw, show ¬ 1048576 < (w.size : Int) by omega, show ¬ 1048576 < w.size by omega, sa]
    · simp [ac_laws_FnExactRewriteOn, cst, show ¬ 1048576 < (st.length : Int) by omega, show ¬ 1048576 < st.length by omega, show 1048576 < (w.size : Int) by omega, show 1048576 < w.size by omega]
  · simp [ac_laws_FnExactRewriteOn, show 1048576 < (st.length : Int) by omega, show 1048576 < st.length by omega]
end Go.Proofs.Ytjfpmpbdbpgofaa
