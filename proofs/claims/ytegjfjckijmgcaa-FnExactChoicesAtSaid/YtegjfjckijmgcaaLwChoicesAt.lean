/- The law FnExactChoicesAt, run: out of what the program's function and the reference's return; printed by a program (lw.py). -/
import Derived.Test.YtegjfjckijmgcaaLwC
import Derived.Test.YtegjfjckijmgcaaProgRun2
set_option linter.unusedVariables false
set_option linter.unusedSimpArgs false
set_option maxRecDepth 100000
namespace Go.Proofs.Ytegjfjckijmgcaa
open Aw

theorem wl_Module (x : GModule) : wModule x ≤ 4 * Siz.size x + 4 := by
  rw [size_Module]
  unfold wModule
  have h0 := (fun y : List GLink => (by have := Siz.len_le y; (try dsimp only); omega : (fun xs : List GLink => 4 * xs.length) y ≤ 4 * Siz.size y)) x.links
  (try dsimp only at *)
  omega
theorem wl_Program (x : GProgram) : wProgram x ≤ 4 * Siz.size x + 4 := by
  rw [size_Program]
  unfold wProgram
  have h0 := (sumW_le4 (W := wModule) (fun y => by have := wl_Module y; (try dsimp only at *); omega)) x.modules
  (try dsimp only at *)
  omega
@[simp] abbrev sh_Program : Sh := (.agg [(.lst 2 (.agg [.any, (.lst 4 .any)]))])
theorem dp_Program : Own.dep (GProgram) ≤ 9 := by decide
abbrev wq_Program (x : GProgram) : Nat := wProgram x
abbrev mq_Program : GProgram → Int → GProgram := mkProgram
theorem wb_Program (x : GProgram) : wq_Program x ≤ 4 * Siz.size x + 4 := wl_Program x
theorem eqq_Program (x : GProgram) (h : Siz.size x ≤ 1048576) : ev fns i_laws_eqProgram [Enc.pv x, Enc.pv x] [] = some (bol true, []) := by have := ev_laws_eqProgram x x h; simpa using this
theorem mrk_Program : MarkC (α := GProgram) fns i_laws_markProgram wq_Program mq_Program := markC_Program
theorem dec_Program {σ : List AObj} {ids : List Nat} {p : PV} {x : GProgram} (h : OwnIn σ ids p x) : ∃ r0, p = .agg [r0] ∧ r0.one = true := by
  obtain ⟨i0, r0, _, rfl, h0⟩ := own_Program.1 h.own
  exact ⟨r0, by simp, (own_one h0).2.2.2⟩
@[simp] abbrev sh_Int64S : Sh := (.lst 1 .any)
theorem dp_Int64S : Own.dep (List Int) ≤ 9 := by decide
def wq_Int64S (x : List Int) : Nat := (fun xs : List Int => 1 * xs.length) x
def mq_Int64S : List Int → Int → List Int := (mkF 1 (fun k => k))
theorem wb_Int64S (x : List Int) : wq_Int64S x ≤ 4 * Siz.size x + 4 := by have := (fun y : List Int => (by have := Siz.len_le y; (try dsimp only); omega : (fun xs : List Int => 1 * xs.length) y ≤ 4 * Siz.size y)) x; unfold wq_Int64S; (try dsimp only at *); omega
theorem eqq_Int64S (x : List Int) (h : Siz.size x ≤ 1048576) : ev fns i_laws_eqInt64S [Enc.pv x, Enc.pv x] [] = some (bol true, []) := by have := ev_laws_eqInt64S x x h; simpa using this
theorem mrk_Int64S : MarkC (α := List Int) fns i_laws_markInt64S wq_Int64S mq_Int64S := markC_Int64S
theorem hld_Int64S : HeldC (α := List Int) fns i_laws_heldInt64S wq_Int64S mq_Int64S := heldC_Int64S
theorem dcf_Int64S {q : PV} {x : List Int} (h : PV.ty sh_Int64S q = Enc.pv x) : (∀ σ, dfr σ 9 q = some q) ∧ q.one = true := by
  have k := ty_lst_inv h
  exact ⟨fun σ => k.2.1 σ 8, k.1⟩
set_option maxHeartbeats 16000000 in
theorem ev_FnExactChoicesAt (a : GProgram) (t : List Int) (fa : Siz.fits a) (ft : Siz.fits t) : ev fns i_laws_FnExactChoicesAt [a.v, lst 1 t] [] = some (bol true, []) := by
  refine go_laws_FnExactChoicesAt (by simp) ?_
  by_cases ct : (t.length : Int) ≤ 1048576
  · skip
    have ea := ev_laws_szProgram a (1048576) (by omega) (by omega) fa
    by_cases ca : (Siz.size a : Int) ≤ 1048576
    · skip
      rw [szR_ok ca] at ea
      have sa := fun σ => callN_lone (σ := σ) (by simp [PV.bels]) ea (by simp)
      simp [-callN, -callT] at sa
      have ha : Siz.size a ≤ 1048576 := by omega
      have wba := wb_Program a
      have ht : Siz.size t ≤ 1048576 := by rw [Siz.size_flat_int]; omega
      have wbt := wb_Int64S t
      have hL := leC_ChoicesAt a ha t ht
      have wbR := wb_Int64S (caL a t)
      generalize hX : (caL a t) = X at *
      obtain ⟨Q, eQ, bQ, yQ⟩ := spC_ChoicesAt a ha t ht
      rw [hX] at yQ
      obtain ⟨qa, ba, ya, za⟩ := lw_cz toC_Program a ha dp_Program (fun r h => by simp [-callN, -callT] at h ⊢; exact h)
      replace ya : PV.ty sh_Program qa = a.v := ya
      obtain ⟨qt, bt, yt, zt⟩ := lw_cz toC_Int64S t ht dp_Int64S (fun r h => by simp [-callN, -callT] at h ⊢; exact h)
      replace yt : PV.ty sh_Int64S qt = lst 1 t := yt
      have sQ := fun σ => callT_loneT (σ := σ) (fns := fns) (f := i_spec_ChoicesAt) (ss := [sh_Program, sh_Int64S]) (args := [qa, qt]) (by simp [PV.bels, ba, bt]) (by simp only [PV.tys, ya, yt]; (try rfl)) eQ (by simp [PV.bels, bQ])
      obtain ⟨dQ, kQ⟩ := dcf_Int64S yQ
      obtain ⟨P1, σ1, ids1, a1, o1, d1, g1, e1⟩ := lw_to toC_Program a ha ([] : List AObj) Good.nil
      have r1 : ∀ i ∈ ids1, (([] : List AObj)).length ≤ i ∧ i < σ1.length := fun i hi => ⟨d1 i hi, o1.lt i hi⟩
      (try simp only [List.length_append, List.length_cons, List.length_nil, Nat.zero_add] at r1)
      have l1 := e1.len
      (try simp only [List.length_append, List.length_cons, List.length_nil, Nat.zero_add] at l1)
      obtain ⟨w1_0, hP1, kw1_0⟩ := dec_Program o1
      have bb2 := o1.bel
      have g2 : Good (σ1 ++ [AObj.row 1 [P1] 0]) := Good.snoc g1 (by simp only [PV.bels, bb2, Bool.and_true])
      have e2 := Ext.snoc (σ1) (AObj.row 1 [P1] 0)
      replace o1 := e2.own o1
      have l2 := e2.len
      (try simp only [List.length_append, List.length_cons, List.length_nil, Nat.zero_add] at l2)
      have u2 : (σ1 ++ [AObj.row 1 [P1] 0])[σ1.length]? = some (AObj.row 1 [P1] 0) := by simp
      obtain ⟨P3, σ3, ids3, a3, o3, d3, g3, e3⟩ := lw_to toC_Int64S t ht (σ1 ++ [AObj.row 1 [P1] 0]) g2
      have r3 : ∀ i ∈ ids3, ((σ1 ++ [AObj.row 1 [P1] 0])).length ≤ i ∧ i < σ3.length := fun i hi => ⟨d3 i hi, o3.lt i hi⟩
      (try simp only [List.length_append, List.length_cons, List.length_nil, Nat.zero_add] at r3)
      replace o1 := e3.own o1
      replace u2 := e3.get u2
      have l3 := e3.len
      (try simp only [List.length_append, List.length_cons, List.length_nil, Nat.zero_add] at l3)
      have u2_3 := u2
      obtain ⟨p4, τ4, is4, eI4, oI4, gI4⟩ := imC_ChoicesAt a ha t ht
      rw [hX] at oI4
      obtain ⟨m1, dm1, ym1⟩ := o1.read dp_Program
      replace ym1 : PV.ty sh_Program m1 = a.v := ym1
      obtain ⟨m3, dm3, ym3⟩ := o3.read dp_Int64S
      replace ym3 : PV.ty sh_Int64S m3 = lst 1 t := ym3
      obtain ⟨P4, σ4, ids4, a4, o4, d4, g4, e4⟩ := lw_impl (f := i_impl_ChoicesAt) (ss := [sh_Program, sh_Int64S]) (args := [P1, P3]) (qs := [m1, m3]) [] [i64 (runP a t).2.2] eI4 oI4 gI4 (by simp [PV.bels, PV.nls, PV.nl]) (by simp [PV.bels, PV.nls, PV.nl]) (σ := σ3) (by simp only [mapO, dm1, dm3]; (try simp [dfr])) (by simp only [PV.tys, ym1, ym3]; (try rfl)) g3
      have r4 : ∀ i ∈ ids4, (σ3).length ≤ i ∧ i < σ4.length := fun i hi => ⟨d4 i hi, o4.lt i hi⟩
      (try simp only [List.length_append, List.length_cons, List.length_nil, Nat.zero_add] at r4)
      replace o1 := e4.own o1
      replace u2 := e4.get u2
      replace o3 := e4.own o3
      have l4 := e4.len
      (try simp only [List.length_append, List.length_cons, List.length_nil, Nat.zero_add] at l4)
      have u2_4 := u2
      have u2_4 := u2
      have q1_ := lw_eqL (f := i_laws_eqInt64S) dp_Int64S o4 yQ (dQ _) (eqq_Int64S X hL)
      replace q1_ : callT fns [sh_Int64S, sh_Int64S] i_laws_eqInt64S [P4, Q] σ4 = some (bol true, σ4) := q1_
      obtain ⟨P5, σ5, ids5, a5, o5, d5, g5, e5⟩ := lw_to toC_Program a ha σ4 g4
      have r5 : ∀ i ∈ ids5, (σ4).length ≤ i ∧ i < σ5.length := fun i hi => ⟨d5 i hi, o5.lt i hi⟩
      (try simp only [List.length_append, List.length_cons, List.length_nil, Nat.zero_add] at r5)
      replace o1 := e5.own o1
      replace u2 := e5.get u2
      replace o3 := e5.own o3
      replace o4 := e5.own o4
      have l5 := e5.len
      (try simp only [List.length_append, List.length_cons, List.length_nil, Nat.zero_add] at l5)
      have u2_5 := u2
      have q2_ := lw_eq2 (f := i_laws_eqProgram) dp_Program o1 o5 (eqq_Program a ha)
      replace q2_ : callT fns [sh_Program, sh_Program] i_laws_eqProgram [P1, P5] σ5 = some (bol true, σ5) := q2_
      obtain ⟨P6, σ6, ids6, a6, o6, d6, g6, e6⟩ := lw_to toC_Int64S t ht σ5 g5
      have r6 : ∀ i ∈ ids6, (σ5).length ≤ i ∧ i < σ6.length := fun i hi => ⟨d6 i hi, o6.lt i hi⟩
      (try simp only [List.length_append, List.length_cons, List.length_nil, Nat.zero_add] at r6)
      replace o1 := e6.own o1
      replace u2 := e6.get u2
      replace o3 := e6.own o3
      replace o4 := e6.own o4
      have l6 := e6.len
      (try simp only [List.length_append, List.length_cons, List.length_nil, Nat.zero_add] at l6)
      have u2_6 := u2
      have q3_ := lw_eq2 (f := i_laws_eqInt64S) dp_Int64S o3 o6 (eqq_Int64S t ht)
      replace q3_ : callT fns [sh_Int64S, sh_Int64S] i_laws_eqInt64S [P3, P6] σ6 = some (bol true, σ6) := q3_
      obtain ⟨σ7, a7, o7, g7, e7⟩ := lw_mark mrk_Program (1) o1 g6 (by omega) (by omega)
      replace u2 := e7.get (fun hj => by have := r1 _ hj; (try simp only [List.length_append, List.length_cons, List.length_nil, Nat.zero_add] at this); omega) u2
      replace o3 := e7.own o3 (fun i hi hj => by have := r3 i hi; have := r1 i hj; omega)
      replace o4 := e7.own o4 (fun i hi hj => by have := r4 i hi; have := r1 i hj; omega)
      have l7 := e7.1
      have u2_7 := u2
      obtain ⟨σ8, a8, o8, g8, e8⟩ := lw_mark mrk_Int64S (1 + wq_Program a) o3 g7 (by omega) (by omega)
      replace u2 := e8.get (fun hj => by have := r3 _ hj; (try simp only [List.length_append, List.length_cons, List.length_nil, Nat.zero_add] at this); omega) u2
      replace o4 := e8.own o4 (fun i hi hj => by have := r4 i hi; have := r3 i hj; omega)
      have l8 := e8.1
      have u2_8 := u2
      have q4_ := lw_eqL (f := i_laws_eqInt64S) dp_Int64S o4 yQ (dQ _) (eqq_Int64S X hL)
      replace q4_ : callT fns [sh_Int64S, sh_Int64S] i_laws_eqInt64S [P4, Q] σ8 = some (bol true, σ8) := q4_
      obtain ⟨σ9, a9, o9, g9, e9⟩ := lw_mark mrk_Int64S (1) o4 g8 (by omega) (by omega)
      replace u2 := e9.get (fun hj => by have := r4 _ hj; (try simp only [List.length_append, List.length_cons, List.length_nil, Nat.zero_add] at this); omega) u2
      have l9 := e9.1
      have u2_9 := u2
      have q5_ := lw_held hld_Int64S dp_Int64S 1 o9 (by omega) (by omega)
      replace q5_ : callT fns [sh_Int64S, .any] i_laws_heldInt64S [P4, i64 1] σ9 = some (i64 (1 + wq_Int64S X), σ9) := q5_
      obtain ⟨P10, σ10, ids10, a10, o10, d10, g10, e10⟩ := lw_to toC_Program a ha σ9 g9
      have r10 : ∀ i ∈ ids10, (σ9).length ≤ i ∧ i < σ10.length := fun i hi => ⟨d10 i hi, o10.lt i hi⟩
      (try simp only [List.length_append, List.length_cons, List.length_nil, Nat.zero_add] at r10)
      replace u2 := e10.get u2
      replace o9 := e10.own o9
      have l10 := e10.len
      (try simp only [List.length_append, List.length_cons, List.length_nil, Nat.zero_add] at l10)
      have u2_10 := u2
      obtain ⟨P11, σ11, ids11, a11, o11, d11, g11, e11⟩ := lw_to toC_Int64S t ht σ10 g10
      have r11 : ∀ i ∈ ids11, (σ10).length ≤ i ∧ i < σ11.length := fun i hi => ⟨d11 i hi, o11.lt i hi⟩
      (try simp only [List.length_append, List.length_cons, List.length_nil, Nat.zero_add] at r11)
      replace u2 := e11.get u2
      replace o9 := e11.own o9
      replace o10 := e11.own o10
      have l11 := e11.len
      (try simp only [List.length_append, List.length_cons, List.length_nil, Nat.zero_add] at l11)
      have u2_11 := u2
      obtain ⟨p12, τ12, is12, eI12, oI12, gI12⟩ := imC_ChoicesAt a ha t ht
      rw [hX] at oI12
      obtain ⟨m10, dm10, ym10⟩ := o10.read dp_Program
      replace ym10 : PV.ty sh_Program m10 = a.v := ym10
      obtain ⟨m11, dm11, ym11⟩ := o11.read dp_Int64S
      replace ym11 : PV.ty sh_Int64S m11 = lst 1 t := ym11
      obtain ⟨P12, σ12, ids12, a12, o12, d12, g12, e12⟩ := lw_impl (f := i_impl_ChoicesAt) (ss := [sh_Program, sh_Int64S]) (args := [P10, P11]) (qs := [m10, m11]) [] [i64 (runP a t).2.2] eI12 oI12 gI12 (by simp [PV.bels, PV.nls, PV.nl]) (by simp [PV.bels, PV.nls, PV.nl]) (σ := σ11) (by simp only [mapO, dm10, dm11]; (try simp [dfr])) (by simp only [PV.tys, ym10, ym11]; (try rfl)) g11
      have r12 : ∀ i ∈ ids12, (σ11).length ≤ i ∧ i < σ12.length := fun i hi => ⟨d12 i hi, o12.lt i hi⟩
      (try simp only [List.length_append, List.length_cons, List.length_nil, Nat.zero_add] at r12)
      replace u2 := e12.get u2
      replace o9 := e12.own o9
      replace o10 := e12.own o10
      replace o11 := e12.own o11
      have l12 := e12.len
      (try simp only [List.length_append, List.length_cons, List.length_nil, Nat.zero_add] at l12)
      have u2_12 := u2
      have u2_12 := u2
      have q6_ := lw_eqL (f := i_laws_eqInt64S) dp_Int64S o12 yQ (dQ _) (eqq_Int64S X hL)
      replace q6_ : callT fns [sh_Int64S, sh_Int64S] i_laws_eqInt64S [P12, Q] σ12 = some (bol true, σ12) := q6_
      have q7_ := lw_held hld_Int64S dp_Int64S 1 o9 (by omega) (by omega)
      replace q7_ : callT fns [sh_Int64S, .any] i_laws_heldInt64S [P4, i64 1] σ12 = some (i64 (1 + wq_Int64S X), σ12) := q7_
      unfold Good at g1 g2 g3 g4 g5 g6 g7 g8 g9 g10 g11 g12
      have w0 : ¬ (((1 : Int) + wq_Program a + wq_Int64S t : Int) < 0) := by omega
      have w1 : ¬ ((1 : Int) + (wq_Int64S X : Nat) < 0) := by omega
      subst hP1
      simp [-callN, -callT] at za zt sQ kQ a1 kw1_0 a3 u2_3 a4 u2_4 u2_4 q1_ a5 u2_5 q2_ a6 u2_6 q3_ a7 u2_7 a8 u2_8 q4_ a9 u2_9 q5_ a10 u2_10 a11 u2_11 a12 u2_12 u2_12 q6_ q7_
      simp [-callN, -callT, ac_laws_FnExactChoicesAt, ct, show ¬ 1048576 < (t.length : Int) by omega, show ¬ 1048576 < t.length by omega, sa, show ¬ (((1048576 : Int) - Siz.size a : Int) < 0) by omega, za, zt, sQ, kQ, a1, kw1_0, a3, u2_3, a4, u2_4, u2_4, q1_, a5, u2_5, q2_, a6, u2_6, q3_, a7, u2_7, a8, u2_8, q4_, a9, u2_9, q5_, a10, u2_10, a11, u2_11, a12, u2_12, u2_12, q6_, q7_, g1, g2, g3, g4, g5, g6, g7, g8, g9, g10, g11, g12, w0, w1]
    · rw [szR_no (by omega)] at ea
      have sa := fun σ => callN_lone (σ := σ) (by simp [PV.bels]) ea (by simp)
      simp [-callN, -callT] at sa
      simp [-callN, -callT, ac_laws_FnExactChoicesAt, ct, show ¬ 1048576 < (t.length : Int) by omega, show ¬ 1048576 < t.length by omega, sa]
  · simp [ac_laws_FnExactChoicesAt, show 1048576 < (t.length : Int) by omega, show 1048576 < t.length by omega]
end Go.Proofs.Ytegjfjckijmgcaa
