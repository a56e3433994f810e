/- The law FnExactRenameRewriter, run: out of what the program's function and the reference's return; printed by a program (lw.py). -/
import Derived.Test.YtegjfjckijmgcaaLwC
import Derived.Test.YtegjfjckijmgcaaRenameL
set_option linter.unusedVariables false
set_option linter.unusedSimpArgs false
set_option maxRecDepth 100000
namespace Go.Proofs.Ytegjfjckijmgcaa
open Aw

theorem wl_Rewriter (x : GRewriter) : wRewriter x ≤ 4 * Siz.size x + 4 := by
  rw [size_Rewriter]
  unfold wRewriter
  have h0 := (sumW_le4 (W := (fun xs : List GOutPush => 3 * xs.length)) (fun y => by have := (fun y : List GOutPush => (by have := Siz.len_le y; (try dsimp only); omega : (fun xs : List GOutPush => 3 * xs.length) y ≤ 4 * Siz.size y)) y; (try dsimp only at *); omega)) x.call
  have h1 := (sumW_le4 (W := (sumW (fun xs : List GOutMove => 2 * xs.length))) (fun y => by have := (sumW_le4 (W := (fun xs : List GOutMove => 2 * xs.length)) (fun y => by have := (fun y : List GOutMove => (by have := Siz.len_le y; (try dsimp only); omega : (fun xs : List GOutMove => 2 * xs.length) y ≤ 4 * Siz.size y)) y; (try dsimp only at *); omega)) y; (try dsimp only at *); omega)) x.ret
  have h2 := (sumW_le4 (W := (fun xs : List GOutMove => 2 * xs.length)) (fun y => by have := (fun y : List GOutMove => (by have := Siz.len_le y; (try dsimp only); omega : (fun xs : List GOutMove => 2 * xs.length) y ≤ 4 * Siz.size y)) y; (try dsimp only at *); omega)) x.inner
  (try dsimp only at *)
  omega
@[simp] abbrev sh_Rewriter : Sh := (.agg [.any, .any, (.lst 1 (.lst 3 .any)), (.lst 1 (.lst 1 (.lst 2 .any))), (.lst 1 (.lst 2 .any))])
theorem dp_Rewriter : Own.dep (GRewriter) ≤ 9 := by decide
abbrev wq_Rewriter (x : GRewriter) : Nat := wRewriter x
abbrev mq_Rewriter : GRewriter → Int → GRewriter := mkRewriter
theorem wb_Rewriter (x : GRewriter) : wq_Rewriter x ≤ 4 * Siz.size x + 4 := wl_Rewriter x
theorem eqq_Rewriter (x : GRewriter) (h : Siz.size x ≤ 1048576) : ev fns i_laws_eqRewriter [Enc.pv x, Enc.pv x] [] = some (bol true, []) := by have := ev_laws_eqRewriter x x h; simpa using this
theorem mrk_Rewriter : MarkC (α := GRewriter) fns i_laws_markRewriter wq_Rewriter mq_Rewriter := markC_Rewriter
theorem hld_Rewriter : HeldC (α := GRewriter) fns i_laws_heldRewriter wq_Rewriter mq_Rewriter := heldC_Rewriter
theorem dec_Rewriter {σ : List AObj} {ids : List Nat} {p : PV} {x : GRewriter} (h : OwnIn σ ids p x) : ∃ r2 r3 r4, p = .agg [(i64 x.stack), (i64 x.start), r2, r3, r4] ∧ r2.one = true ∧ r3.one = true ∧ r4.one = true := by
  obtain ⟨i0, r0, i1, r1, i2, r2, i3, r3, i4, r4, _, rfl, ⟨_, rfl⟩, ⟨_, rfl⟩, h2, h3, h4⟩ := own_Rewriter.1 h.own
  exact ⟨r2, r3, r4, by simp, (own_one h2).2.2.2, (own_one h3).2.2.2, (own_one h4).2.2.2⟩
theorem dcf_Rewriter {q : PV} {x : GRewriter} (h : PV.ty sh_Rewriter q = Enc.pv x) : ∃ r2 r3 r4, q = .agg [(i64 x.stack), (i64 x.start), r2, r3, r4] ∧ dfr [] 9 q = some q ∧ (∀ σ, dfr σ 9 q = some q) ∧ r2.one = true ∧ r3.one = true ∧ r4.one = true := by
  obtain ⟨qs, rfl, t0⟩ := ty_agg_inv h
  obtain ⟨r0, qs0, rfl, e0, t1⟩ := tys_cons_inv t0
  obtain ⟨r1, qs1, rfl, e1, t2⟩ := tys_cons_inv t1
  obtain ⟨r2, qs2, rfl, e2, t3⟩ := tys_cons_inv t2
  obtain ⟨r3, qs3, rfl, e3, t4⟩ := tys_cons_inv t3
  obtain ⟨r4, qs4, rfl, e4, t5⟩ := tys_cons_inv t4
  obtain rfl := tys_nil_inv t5
  replace e0 : r0 = (i64 x.stack) := by simpa using e0
  subst e0
  replace e1 : r1 = (i64 x.start) := by simpa using e1
  subst e1
  have k2 := ty_lst_inv e2
  have k3 := ty_lst_inv e3
  have k4 := ty_lst_inv e4
  have hd : ∀ σ, dfr σ 9 (.agg [(i64 x.stack), (i64 x.start), r2, r3, r4]) = some (.agg [(i64 x.stack), (i64 x.start), r2, r3, r4]) := fun σ => by simp [dfr, mapO, k2.2.1, k3.2.1, k4.2.1]
  exact ⟨r2, r3, r4, rfl, hd [], hd, k2.1, k3.1, k4.1⟩
set_option maxHeartbeats 16000000 in
theorem ev_FnExactRenameRewriter (w : ByteArray) (fw : Siz.fits w) : ev fns i_laws_FnExactRenameRewriter [str w] [] = some (bol true, []) := by
  refine go_laws_FnExactRenameRewriter (by simp) ?_
  by_cases cw : (w.size : Int) ≤ 1048576
  · skip
    have hw : w.size ≤ 1048576 := by omega
    have hL := leC_RenameRewriter w hw
    have wbR := wb_Rewriter (rnX w)
    generalize hX : (rnX w) = X at *
    obtain ⟨Q, eQ, bQ, yQ⟩ := spC_RenameRewriter w hw
    rw [hX] at yQ
    have sQ := fun σ => callN_lone (σ := σ) (by simp [PV.bels]) eQ (by simp [PV.bels, bQ])
    obtain ⟨v2, v3, v4, hQ, _, dQ, kv2, kv3, kv4⟩ := dcf_Rewriter yQ
    have gQ : Good [.row 5 [Q] 0] := Good.snoc Good.nil (by simp [PV.bels, PV.bel_le (Nat.zero_le _) bQ])
    have lQ : ([.row 5 [Q] 0] : List AObj).length = 1 := rfl
    have uQ : ([.row 5 [Q] 0] : List AObj)[0]? = some (.row 5 [Q] 0) := rfl
    obtain ⟨p1, τ1, is1, eI1, oI1, gI1⟩ := imC_RenameRewriter w hw
    rw [hX] at oI1
    obtain ⟨P1, σ1, ids1, a1, o1, d1, g1, e1⟩ := lw_implN (f := i_impl_RenameRewriter) [] [i64 (rnC w)] eI1 oI1 gI1 (by simp [PV.bels]) (by simp [PV.bels]) (by simp [PV.bels]) (σ := ([.row 5 [Q] 0] : List AObj)) gQ
    have r1 : ∀ i ∈ ids1, (([.row 5 [Q] 0] : List AObj)).length ≤ i ∧ i < σ1.length := fun i hi => ⟨d1 i hi, o1.lt i hi⟩
    (try simp only [List.length_append, List.length_cons, List.length_nil, Nat.zero_add] at r1)
    replace uQ := e1.get uQ
    have l1 := e1.len
    (try simp only [List.length_append, List.length_cons, List.length_nil, Nat.zero_add] at l1)
    have uQ_1 := uQ
    obtain ⟨w1_2, w1_3, w1_4, hP1, kw1_2, kw1_3, kw1_4⟩ := dec_Rewriter o1
    have bb2 := o1.bel
    have g2 : Good (σ1 ++ [.row 5 [P1] 0]) := Good.snoc g1 (by simp only [PV.bels, bb2, Bool.and_true])
    have e2 := Ext.snoc (σ1) (.row 5 [P1] 0)
    replace uQ := e2.get uQ
    replace o1 := e2.own o1
    have l2 := e2.len
    (try simp only [List.length_append, List.length_cons, List.length_nil, Nat.zero_add] at l2)
    have u2 : (σ1 ++ [.row 5 [P1] 0])[σ1.length]? = some (.row 5 [P1] 0) := by simp
    have uQ_2 := uQ
    have u2_2 := u2
    have q1_ := lw_eqL (f := i_laws_eqRewriter) dp_Rewriter o1 yQ (dQ _) (eqq_Rewriter X hL)
    replace q1_ : callT fns [sh_Rewriter, sh_Rewriter] i_laws_eqRewriter [P1, Q] (σ1 ++ [.row 5 [P1] 0]) = some (bol true, (σ1 ++ [.row 5 [P1] 0])) := q1_
    obtain ⟨σ3, a3, o3, g3, e3⟩ := lw_mark mrk_Rewriter (1) o1 g2 (by omega) (by omega)
    replace uQ := e3.get (fun hj => by have := r1 _ hj; (try simp only [List.length_append, List.length_cons, List.length_nil, Nat.zero_add] at this); omega) uQ
    replace u2 := e3.get (fun hj => by have := r1 _ hj; (try simp only [List.length_append, List.length_cons, List.length_nil, Nat.zero_add] at this); omega) u2
    have l3 := e3.1
    have uQ_3 := uQ
    have u2_3 := u2
    have q2_ := lw_held hld_Rewriter dp_Rewriter 1 o3 (by omega) (by omega)
    replace q2_ : callT fns [sh_Rewriter, .any] i_laws_heldRewriter [P1, i64 1] σ3 = some (i64 (1 + wq_Rewriter X), σ3) := q2_
    obtain ⟨p4, τ4, is4, eI4, oI4, gI4⟩ := imC_RenameRewriter w hw
    rw [hX] at oI4
    obtain ⟨P4, σ4, ids4, a4, o4, d4, g4, e4⟩ := lw_implN (f := i_impl_RenameRewriter) [] [i64 (rnC w)] eI4 oI4 gI4 (by simp [PV.bels]) (by simp [PV.bels]) (by simp [PV.bels]) (σ := σ3) g3
    have r4 : ∀ i ∈ ids4, (σ3).length ≤ i ∧ i < σ4.length := fun i hi => ⟨d4 i hi, o4.lt i hi⟩
    (try simp only [List.length_append, List.length_cons, List.length_nil, Nat.zero_add] at r4)
    replace uQ := e4.get uQ
    replace o3 := e4.own o3
    replace u2 := e4.get u2
    have l4 := e4.len
    (try simp only [List.length_append, List.length_cons, List.length_nil, Nat.zero_add] at l4)
    have uQ_4 := uQ
    have u2_4 := u2
    obtain ⟨w4_2, w4_3, w4_4, hP4, kw4_2, kw4_3, kw4_4⟩ := dec_Rewriter o4
    have bb5 := o4.bel
    have g5 : Good (σ4 ++ [.row 5 [P4] 0]) := Good.snoc g4 (by simp only [PV.bels, bb5, Bool.and_true])
    have e5 := Ext.snoc (σ4) (.row 5 [P4] 0)
    replace uQ := e5.get uQ
    replace o3 := e5.own o3
    replace u2 := e5.get u2
    replace o4 := e5.own o4
    have l5 := e5.len
    (try simp only [List.length_append, List.length_cons, List.length_nil, Nat.zero_add] at l5)
    have u5 : (σ4 ++ [.row 5 [P4] 0])[σ4.length]? = some (.row 5 [P4] 0) := by simp
    have uQ_5 := uQ
    have u2_5 := u2
    have u5_5 := u5
    have q3_ := lw_eqL (f := i_laws_eqRewriter) dp_Rewriter o4 yQ (dQ _) (eqq_Rewriter X hL)
    replace q3_ : callT fns [sh_Rewriter, sh_Rewriter] i_laws_eqRewriter [P4, Q] (σ4 ++ [.row 5 [P4] 0]) = some (bol true, (σ4 ++ [.row 5 [P4] 0])) := q3_
    have q4_ := lw_held hld_Rewriter dp_Rewriter 1 o3 (by omega) (by omega)
    replace q4_ : callT fns [sh_Rewriter, .any] i_laws_heldRewriter [P1, i64 1] (σ4 ++ [.row 5 [P4] 0]) = some (i64 (1 + wq_Rewriter X), (σ4 ++ [.row 5 [P4] 0])) := q4_
    unfold Good at g1 g2 g3 g4 g5 gQ
    have w0 : ¬ ((((1 : Int) : Int) : Int) < 0) := by omega
    have w1 : ¬ ((1 : Int) + (wq_Rewriter X : Nat) < 0) := by omega
    subst hQ
    subst hP1
    subst hP4
    simp [-callN, -callT] at sQ kv2 kv3 kv4 a1 uQ_1 kw1_2 kw1_3 kw1_4 uQ_2 u2_2 q1_ a3 uQ_3 u2_3 q2_ a4 uQ_4 u2_4 kw4_2 kw4_3 kw4_4 uQ_5 u2_5 u5_5 q3_ q4_
    simp [-callN, -callT, ac_laws_FnExactRenameRewriter, cw, show ¬ 1048576 < (w.size : Int) by omega, show ¬ 1048576 < w.size by omega, sQ, kv2, kv3, kv4, a1, uQ_1, kw1_2, kw1_3, kw1_4, uQ_2, u2_2, q1_, a3, uQ_3, u2_3, q2_, a4, uQ_4, u2_4, kw4_2, kw4_3, kw4_4, uQ_5, u2_5, u5_5, q3_, q4_, g1, g2, g3, g4, g5, gQ, w0, w1]
  · simp [ac_laws_FnExactRenameRewriter, show 1048576 < (w.size : Int) by omega, show 1048576 < w.size by omega]
end Go.Proofs.Ytegjfjckijmgcaa
