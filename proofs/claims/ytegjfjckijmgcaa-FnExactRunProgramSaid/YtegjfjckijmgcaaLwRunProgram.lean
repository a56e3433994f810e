/- The law FnExactRunProgram, run: out of what the program's function and the reference's return; printed by a program (lw.py). -/
import Derived.Test.YtegjfjckijmgcaaLwC
import Derived.Test.YtegjfjckijmgcaaProgRun3
set_option linter.unusedVariables false
set_option linter.unusedSimpArgs false
set_option maxRecDepth 100000
namespace Go.Proofs.Ytegjfjckijmgcaa
open Aw

theorem wl_Module (x : GModule) : wModule x ≤ 4 * Siz.size x + 4 := by
  rw [size_Module]
  unfold wModule
  have h0 := (fun y : List GLink => (by have := Siz.len_le y; (try dsimp only); omega : (fun xs : List GLink => 4 * xs.length) y ≤ 4 * Siz.size y)) x.links
  (try dsimp only at *)
  omega
theorem wl_Program (x : GProgram) : wProgram x ≤ 4 * Siz.size x + 4 := by
  rw [size_Program]
  unfold wProgram
  have h0 := (sumW_le4 (W := wModule) (fun y => by have := wl_Module y; (try dsimp only at *); omega)) x.modules
  (try dsimp only at *)
  omega
theorem wl_Place (x : GPlace) : wPlace x ≤ 4 * Siz.size x + 4 := by
  rw [size_Place]
  unfold wPlace
  have h0 := (sumW_le4 (W := (fun xs : List Int => 1 * xs.length)) (fun y => by have := (fun y : List Int => (by have := Siz.len_le y; (try dsimp only); omega : (fun xs : List Int => 1 * xs.length) y ≤ 4 * Siz.size y)) y; (try dsimp only at *); omega)) x.opn
  (try dsimp only at *)
  omega
@[simp] abbrev sh_Program : Sh := (.agg [(.lst 2 (.agg [.any, (.lst 4 .any)]))])
theorem dp_Program : Own.dep (GProgram) ≤ 9 := by decide
abbrev wq_Program (x : GProgram) : Nat := wProgram x
abbrev mq_Program : GProgram → Int → GProgram := mkProgram
theorem wb_Program (x : GProgram) : wq_Program x ≤ 4 * Siz.size x + 4 := wl_Program x
theorem eqq_Program (x : GProgram) (h : Siz.size x ≤ 1048576) : ev fns i_laws_eqProgram [Enc.pv x, Enc.pv x] [] = some (bol true, []) := by have := ev_laws_eqProgram x x h; simpa using this
theorem mrk_Program : MarkC (α := GProgram) fns i_laws_markProgram wq_Program mq_Program := markC_Program
theorem dec_Program {σ : List AObj} {ids : List Nat} {p : PV} {x : GProgram} (h : OwnIn σ ids p x) : ∃ r0, p = .agg [r0] ∧ r0.one = true := by
  obtain ⟨i0, r0, _, rfl, h0⟩ := own_Program.1 h.own
  exact ⟨r0, by simp, (own_one h0).2.2.2⟩
@[simp] abbrev sh_Int64S : Sh := (.lst 1 .any)
theorem dp_Int64S : Own.dep (List Int) ≤ 9 := by decide
def wq_Int64S (x : List Int) : Nat := (fun xs : List Int => 1 * xs.length) x
def mq_Int64S : List Int → Int → List Int := (mkF 1 (fun k => k))
theorem wb_Int64S (x : List Int) : wq_Int64S x ≤ 4 * Siz.size x + 4 := by have := (fun y : List Int => (by have := Siz.len_le y; (try dsimp only); omega : (fun xs : List Int => 1 * xs.length) y ≤ 4 * Siz.size y)) x; unfold wq_Int64S; (try dsimp only at *); omega
theorem eqq_Int64S (x : List Int) (h : Siz.size x ≤ 1048576) : ev fns i_laws_eqInt64S [Enc.pv x, Enc.pv x] [] = some (bol true, []) := by have := ev_laws_eqInt64S x x h; simpa using this
theorem mrk_Int64S : MarkC (α := List Int) fns i_laws_markInt64S wq_Int64S mq_Int64S := markC_Int64S
@[simp] abbrev sh_Place : Sh := (.agg [.any, .any, (.lst 1 (.lst 1 .any))])
theorem dp_Place : Own.dep (GPlace) ≤ 9 := by decide
abbrev wq_Place (x : GPlace) : Nat := wPlace x
abbrev mq_Place : GPlace → Int → GPlace := mkPlace
theorem wb_Place (x : GPlace) : wq_Place x ≤ 4 * Siz.size x + 4 := wl_Place x
theorem eqq_Place (x : GPlace) (h : Siz.size x ≤ 1048576) : ev fns i_laws_eqPlace [Enc.pv x, Enc.pv x] [] = some (bol true, []) := by have := ev_laws_eqPlace x x h; simpa using this
theorem mrk_Place : MarkC (α := GPlace) fns i_laws_markPlace wq_Place mq_Place := markC_Place
theorem hld_Place : HeldC (α := GPlace) fns i_laws_heldPlace wq_Place mq_Place := heldC_Place
theorem dec_Place {σ : List AObj} {ids : List Nat} {p : PV} {x : GPlace} (h : OwnIn σ ids p x) : ∃ r2, p = .agg [(i64 x.module), (i64 x.node), r2] ∧ r2.one = true := by
  obtain ⟨i0, r0, i1, r1, i2, r2, _, rfl, ⟨_, rfl⟩, ⟨_, rfl⟩, h2⟩ := own_Place.1 h.own
  exact ⟨r2, by simp, (own_one h2).2.2.2⟩
theorem dcf_Place {q : PV} {x : GPlace} (h : PV.ty sh_Place q = Enc.pv x) : ∃ r2, q = .agg [(i64 x.module), (i64 x.node), r2] ∧ dfr [] 9 q = some q ∧ (∀ σ, dfr σ 9 q = some q) ∧ r2.one = true := by
  obtain ⟨qs, rfl, t0⟩ := ty_agg_inv h
  obtain ⟨r0, qs0, rfl, e0, t1⟩ := tys_cons_inv t0
  obtain ⟨r1, qs1, rfl, e1, t2⟩ := tys_cons_inv t1
  obtain ⟨r2, qs2, rfl, e2, t3⟩ := tys_cons_inv t2
  obtain rfl := tys_nil_inv t3
  replace e0 : r0 = (i64 x.module) := by simpa using e0
  subst e0
  replace e1 : r1 = (i64 x.node) := by simpa using e1
  subst e1
  have k2 := ty_lst_inv e2
  have hd : ∀ σ, dfr σ 9 (.agg [(i64 x.module), (i64 x.node), r2]) = some (.agg [(i64 x.module), (i64 x.node), r2]) := fun σ => by simp [dfr, mapO, k2.2.1]
  exact ⟨r2, rfl, hd [], hd, k2.1⟩
set_option maxHeartbeats 16000000 in
theorem ev_FnExactRunProgram (a : GProgram) (t : List Int) (fa : Siz.fits a) (ft : Siz.fits t) : ev fns i_laws_FnExactRunProgram [a.v, lst 1 t] [] = some (bol true, []) := by
  refine go_laws_FnExactRunProgram (by simp) ?_
  by_cases ct : (t.length : Int) ≤ 1048576
  · skip
    have ea := ev_laws_szProgram a (1048576) (by omega) (by omega) fa
    by_cases ca : (Siz.size a : Int) ≤ 1048576
    · skip
      rw [szR_ok ca] at ea
      have sa := fun σ => callN_lone (σ := σ) (by simp [PV.bels]) ea (by simp)
      simp [-callN, -callT] at sa
      have ha : Siz.size a ≤ 1048576 := by omega
      have wba := wb_Program a
      have ht : Siz.size t ≤ 1048576 := by rw [Siz.size_flat_int]; omega
      have wbt := wb_Int64S t
      have hL := leC_RunProgram a ha t ht
      have wbR := wb_Place (rpX a t)
      generalize hX : (rpX a t) = X at *
      obtain ⟨Q, eQ, bQ, yQ⟩ := spC_RunProgram a ha t ht
      rw [hX] at yQ
      obtain ⟨qa, ba, ya, za⟩ := lw_cz toC_Program a ha dp_Program (fun r h => by simp [-callN, -callT] at h ⊢; exact h)
      replace ya : PV.ty sh_Program qa = a.v := ya
      obtain ⟨qt, bt, yt, zt⟩ := lw_cz toC_Int64S t ht dp_Int64S (fun r h => by simp [-callN, -callT] at h ⊢; exact h)
      replace yt : PV.ty sh_Int64S qt = lst 1 t := yt
      have sQ := fun σ => callT_loneT (σ := σ) (fns := fns) (f := i_spec_RunProgram) (ss := [sh_Program, sh_Int64S]) (args := [qa, qt]) (by simp [PV.bels, ba, bt]) (by simp only [PV.tys, ya, yt]; (try rfl)) eQ (by simp [PV.bels, bQ])
      obtain ⟨v2, hQ, _, dQ, kv2⟩ := dcf_Place yQ
      have gQ : Good [AObj.row 3 [Q] 0] := Good.snoc Good.nil (by simp [PV.bels, PV.bel_le (Nat.zero_le _) bQ])
      have lQ : ([AObj.row 3 [Q] 0] : List AObj).length = 1 := rfl
      have uQ : ([AObj.row 3 [Q] 0] : List AObj)[0]? = some (AObj.row 3 [Q] 0) := rfl
      obtain ⟨P1, σ1, ids1, a1, o1, d1, g1, e1⟩ := lw_to toC_Program a ha ([AObj.row 3 [Q] 0] : List AObj) gQ
      have r1 : ∀ i ∈ ids1, (([AObj.row 3 [Q] 0] : List AObj)).length ≤ i ∧ i < σ1.length := fun i hi => ⟨d1 i hi, o1.lt i hi⟩
      (try simp only [List.length_append, List.length_cons, List.length_nil, Nat.zero_add] at r1)
      replace uQ := e1.get uQ
      have l1 := e1.len
      (try simp only [List.length_append, List.length_cons, List.length_nil, Nat.zero_add] at l1)
      have uQ_1 := uQ
      obtain ⟨w1_0, hP1, kw1_0⟩ := dec_Program o1
      have bb2 := o1.bel
      have g2 : Good (σ1 ++ [AObj.row 1 [P1] 0]) := Good.snoc g1 (by simp only [PV.bels, bb2, Bool.and_true])
      have e2 := Ext.snoc (σ1) (AObj.row 1 [P1] 0)
      replace uQ := e2.get uQ
      replace o1 := e2.own o1
      have l2 := e2.len
      (try simp only [List.length_append, List.length_cons, List.length_nil, Nat.zero_add] at l2)
      have u2 : (σ1 ++ [AObj.row 1 [P1] 0])[σ1.length]? = some (AObj.row 1 [P1] 0) := by simp
      obtain ⟨P3, σ3, ids3, a3, o3, d3, g3, e3⟩ := lw_to toC_Int64S t ht (σ1 ++ [AObj.row 1 [P1] 0]) g2
      have r3 : ∀ i ∈ ids3, ((σ1 ++ [AObj.row 1 [P1] 0])).length ≤ i ∧ i < σ3.length := fun i hi => ⟨d3 i hi, o3.lt i hi⟩
      (try simp only [List.length_append, List.length_cons, List.length_nil, Nat.zero_add] at r3)
      replace uQ := e3.get uQ
      replace o1 := e3.own o1
      replace u2 := e3.get u2
      have l3 := e3.len
      (try simp only [List.length_append, List.length_cons, List.length_nil, Nat.zero_add] at l3)
      have uQ_3 := uQ
      have u2_3 := u2
      obtain ⟨p4, τ4, is4, eI4, oI4, gI4⟩ := imC_RunProgram a ha t ht
      rw [hX] at oI4
      obtain ⟨m1, dm1, ym1⟩ := o1.read dp_Program
      replace ym1 : PV.ty sh_Program m1 = a.v := ym1
      obtain ⟨m3, dm3, ym3⟩ := o3.read dp_Int64S
      replace ym3 : PV.ty sh_Int64S m3 = lst 1 t := ym3
      obtain ⟨P4, σ4, ids4, a4, o4, d4, g4, e4⟩ := lw_impl (f := i_impl_RunProgram) (ss := [sh_Program, sh_Int64S]) (args := [P1, P3]) (qs := [m1, m3]) [str (rpO a t)] [i64 (rpC a t)] eI4 oI4 gI4 (by simp [PV.bels, PV.nls, PV.nl]) (by simp [PV.bels, PV.nls, PV.nl]) (σ := σ3) (by simp only [mapO, dm1, dm3]; (try simp [dfr])) (by simp only [PV.tys, ym1, ym3]; (try rfl)) g3
      have r4 : ∀ i ∈ ids4, (σ3).length ≤ i ∧ i < σ4.length := fun i hi => ⟨d4 i hi, o4.lt i hi⟩
      (try simp only [List.length_append, List.length_cons, List.length_nil, Nat.zero_add] at r4)
      replace uQ := e4.get uQ
      replace o1 := e4.own o1
      replace u2 := e4.get u2
      replace o3 := e4.own o3
      have l4 := e4.len
      (try simp only [List.length_append, List.length_cons, List.length_nil, Nat.zero_add] at l4)
      have uQ_4 := uQ
      have u2_4 := u2
      obtain ⟨w4_2, hP4, kw4_2⟩ := dec_Place o4
      have bb5 := o4.bel
      have g5 : Good (σ4 ++ [AObj.row 3 [P4] 0]) := Good.snoc g4 (by simp only [PV.bels, bb5, Bool.and_true])
      have e5 := Ext.snoc (σ4) (AObj.row 3 [P4] 0)
      replace uQ := e5.get uQ
      replace o1 := e5.own o1
      replace u2 := e5.get u2
      replace o3 := e5.own o3
      replace o4 := e5.own o4
      have l5 := e5.len
      (try simp only [List.length_append, List.length_cons, List.length_nil, Nat.zero_add] at l5)
      have u5 : (σ4 ++ [AObj.row 3 [P4] 0])[σ4.length]? = some (AObj.row 3 [P4] 0) := by simp
      have uQ_5 := uQ
      have u2_5 := u2
      have u5_5 := u5
      have q1_ := lw_eqL (f := i_laws_eqPlace) dp_Place o4 yQ (dQ _) (eqq_Place X hL)
      replace q1_ : callT fns [sh_Place, sh_Place] i_laws_eqPlace [P4, Q] (σ4 ++ [AObj.row 3 [P4] 0]) = some (bol true, (σ4 ++ [AObj.row 3 [P4] 0])) := q1_
      obtain ⟨P6, σ6, ids6, a6, o6, d6, g6, e6⟩ := lw_to toC_Program a ha (σ4 ++ [AObj.row 3 [P4] 0]) g5
      have r6 : ∀ i ∈ ids6, ((σ4 ++ [AObj.row 3 [P4] 0])).length ≤ i ∧ i < σ6.length := fun i hi => ⟨d6 i hi, o6.lt i hi⟩
      (try simp only [List.length_append, List.length_cons, List.length_nil, Nat.zero_add] at r6)
      replace uQ := e6.get uQ
      replace o1 := e6.own o1
      replace u2 := e6.get u2
      replace o3 := e6.own o3
      replace o4 := e6.own o4
      replace u5 := e6.get u5
      have l6 := e6.len
      (try simp only [List.length_append, List.length_cons, List.length_nil, Nat.zero_add] at l6)
      have uQ_6 := uQ
      have u2_6 := u2
      have u5_6 := u5
      have q2_ := lw_eq2 (f := i_laws_eqProgram) dp_Program o1 o6 (eqq_Program a ha)
      replace q2_ : callT fns [sh_Program, sh_Program] i_laws_eqProgram [P1, P6] σ6 = some (bol true, σ6) := q2_
      obtain ⟨P7, σ7, ids7, a7, o7, d7, g7, e7⟩ := lw_to toC_Int64S t ht σ6 g6
      have r7 : ∀ i ∈ ids7, (σ6).length ≤ i ∧ i < σ7.length := fun i hi => ⟨d7 i hi, o7.lt i hi⟩
      (try simp only [List.length_append, List.length_cons, List.length_nil, Nat.zero_add] at r7)
      replace uQ := e7.get uQ
      replace o1 := e7.own o1
      replace u2 := e7.get u2
      replace o3 := e7.own o3
      replace o4 := e7.own o4
      replace u5 := e7.get u5
      have l7 := e7.len
      (try simp only [List.length_append, List.length_cons, List.length_nil, Nat.zero_add] at l7)
      have uQ_7 := uQ
      have u2_7 := u2
      have u5_7 := u5
      have q3_ := lw_eq2 (f := i_laws_eqInt64S) dp_Int64S o3 o7 (eqq_Int64S t ht)
      replace q3_ : callT fns [sh_Int64S, sh_Int64S] i_laws_eqInt64S [P3, P7] σ7 = some (bol true, σ7) := q3_
      obtain ⟨σ8, a8, o8, g8, e8⟩ := lw_mark mrk_Program (1) o1 g7 (by omega) (by omega)
      replace uQ := e8.get (fun hj => by have := r1 _ hj; (try simp only [List.length_append, List.length_cons, List.length_nil, Nat.zero_add] at this); omega) uQ
      replace u2 := e8.get (fun hj => by have := r1 _ hj; (try simp only [List.length_append, List.length_cons, List.length_nil, Nat.zero_add] at this); omega) u2
      replace o3 := e8.own o3 (fun i hi hj => by have := r3 i hi; have := r1 i hj; omega)
      replace o4 := e8.own o4 (fun i hi hj => by have := r4 i hi; have := r1 i hj; omega)
      replace u5 := e8.get (fun hj => by have := r1 _ hj; (try simp only [List.length_append, List.length_cons, List.length_nil, Nat.zero_add] at this); omega) u5
      have l8 := e8.1
      have uQ_8 := uQ
      have u2_8 := u2
      have u5_8 := u5
      obtain ⟨σ9, a9, o9, g9, e9⟩ := lw_mark mrk_Int64S (1 + wq_Program a) o3 g8 (by omega) (by omega)
      replace uQ := e9.get (fun hj => by have := r3 _ hj; (try simp only [List.length_append, List.length_cons, List.length_nil, Nat.zero_add] at this); omega) uQ
      replace u2 := e9.get (fun hj => by have := r3 _ hj; (try simp only [List.length_append, List.length_cons, List.length_nil, Nat.zero_add] at this); omega) u2
      replace o4 := e9.own o4 (fun i hi hj => by have := r4 i hi; have := r3 i hj; omega)
      replace u5 := e9.get (fun hj => by have := r3 _ hj; (try simp only [List.length_append, List.length_cons, List.length_nil, Nat.zero_add] at this); omega) u5
      have l9 := e9.1
      have uQ_9 := uQ
      have u2_9 := u2
      have u5_9 := u5
      have q4_ := lw_eqL (f := i_laws_eqPlace) dp_Place o4 yQ (dQ _) (eqq_Place X hL)
      replace q4_ : callT fns [sh_Place, sh_Place] i_laws_eqPlace [P4, Q] σ9 = some (bol true, σ9) := q4_
      obtain ⟨σ10, a10, o10, g10, e10⟩ := lw_mark mrk_Place (1) o4 g9 (by omega) (by omega)
      replace uQ := e10.get (fun hj => by have := r4 _ hj; (try simp only [List.length_append, List.length_cons, List.length_nil, Nat.zero_add] at this); omega) uQ
      replace u2 := e10.get (fun hj => by have := r4 _ hj; (try simp only [List.length_append, List.length_cons, List.length_nil, Nat.zero_add] at this); omega) u2
      replace u5 := e10.get (fun hj => by have := r4 _ hj; (try simp only [List.length_append, List.length_cons, List.length_nil, Nat.zero_add] at this); omega) u5
      have l10 := e10.1
      have uQ_10 := uQ
      have u2_10 := u2
      have u5_10 := u5
      have q5_ := lw_held hld_Place dp_Place 1 o10 (by omega) (by omega)
      replace q5_ : callT fns [sh_Place, .any] i_laws_heldPlace [P4, i64 1] σ10 = some (i64 (1 + wq_Place X), σ10) := q5_
      obtain ⟨P11, σ11, ids11, a11, o11, d11, g11, e11⟩ := lw_to toC_Program a ha σ10 g10
      have r11 : ∀ i ∈ ids11, (σ10).length ≤ i ∧ i < σ11.length := fun i hi => ⟨d11 i hi, o11.lt i hi⟩
      (try simp only [List.length_append, List.length_cons, List.length_nil, Nat.zero_add] at r11)
      replace uQ := e11.get uQ
      replace u2 := e11.get u2
      replace o10 := e11.own o10
      replace u5 := e11.get u5
      have l11 := e11.len
      (try simp only [List.length_append, List.length_cons, List.length_nil, Nat.zero_add] at l11)
      have uQ_11 := uQ
      have u2_11 := u2
      have u5_11 := u5
      obtain ⟨P12, σ12, ids12, a12, o12, d12, g12, e12⟩ := lw_to toC_Int64S t ht σ11 g11
      have r12 : ∀ i ∈ ids12, (σ11).length ≤ i ∧ i < σ12.length := fun i hi => ⟨d12 i hi, o12.lt i hi⟩
      (try simp only [List.length_append, List.length_cons, List.length_nil, Nat.zero_add] at r12)
      replace uQ := e12.get uQ
      replace u2 := e12.get u2
      replace o10 := e12.own o10
      replace u5 := e12.get u5
      replace o11 := e12.own o11
      have l12 := e12.len
      (try simp only [List.length_append, List.length_cons, List.length_nil, Nat.zero_add] at l12)
      have uQ_12 := uQ
      have u2_12 := u2
      have u5_12 := u5
      obtain ⟨p13, τ13, is13, eI13, oI13, gI13⟩ := imC_RunProgram a ha t ht
      rw [hX] at oI13
      obtain ⟨m11, dm11, ym11⟩ := o11.read dp_Program
      replace ym11 : PV.ty sh_Program m11 = a.v := ym11
      obtain ⟨m12, dm12, ym12⟩ := o12.read dp_Int64S
      replace ym12 : PV.ty sh_Int64S m12 = lst 1 t := ym12
      obtain ⟨P13, σ13, ids13, a13, o13, d13, g13, e13⟩ := lw_impl (f := i_impl_RunProgram) (ss := [sh_Program, sh_Int64S]) (args := [P11, P12]) (qs := [m11, m12]) [str (rpO a t)] [i64 (rpC a t)] eI13 oI13 gI13 (by simp [PV.bels, PV.nls, PV.nl]) (by simp [PV.bels, PV.nls, PV.nl]) (σ := σ12) (by simp only [mapO, dm11, dm12]; (try simp [dfr])) (by simp only [PV.tys, ym11, ym12]; (try rfl)) g12
      have r13 : ∀ i ∈ ids13, (σ12).length ≤ i ∧ i < σ13.length := fun i hi => ⟨d13 i hi, o13.lt i hi⟩
      (try simp only [List.length_append, List.length_cons, List.length_nil, Nat.zero_add] at r13)
      replace uQ := e13.get uQ
      replace u2 := e13.get u2
      replace o10 := e13.own o10
      replace u5 := e13.get u5
      replace o11 := e13.own o11
      replace o12 := e13.own o12
      have l13 := e13.len
      (try simp only [List.length_append, List.length_cons, List.length_nil, Nat.zero_add] at l13)
      have uQ_13 := uQ
      have u2_13 := u2
      have u5_13 := u5
      obtain ⟨w13_2, hP13, kw13_2⟩ := dec_Place o13
      have bb14 := o13.bel
      have g14 : Good (σ13 ++ [AObj.row 3 [P13] 0]) := Good.snoc g13 (by simp only [PV.bels, bb14, Bool.and_true])
      have e14 := Ext.snoc (σ13) (AObj.row 3 [P13] 0)
      replace uQ := e14.get uQ
      replace u2 := e14.get u2
      replace o10 := e14.own o10
      replace u5 := e14.get u5
      replace o11 := e14.own o11
      replace o12 := e14.own o12
      replace o13 := e14.own o13
      have l14 := e14.len
      (try simp only [List.length_append, List.length_cons, List.length_nil, Nat.zero_add] at l14)
      have u14 : (σ13 ++ [AObj.row 3 [P13] 0])[σ13.length]? = some (AObj.row 3 [P13] 0) := by simp
      have uQ_14 := uQ
      have u2_14 := u2
      have u5_14 := u5
      have u14_14 := u14
      have q6_ := lw_eqL (f := i_laws_eqPlace) dp_Place o13 yQ (dQ _) (eqq_Place X hL)
      replace q6_ : callT fns [sh_Place, sh_Place] i_laws_eqPlace [P13, Q] (σ13 ++ [AObj.row 3 [P13] 0]) = some (bol true, (σ13 ++ [AObj.row 3 [P13] 0])) := q6_
      have q7_ := lw_held hld_Place dp_Place 1 o10 (by omega) (by omega)
      replace q7_ : callT fns [sh_Place, .any] i_laws_heldPlace [P4, i64 1] (σ13 ++ [AObj.row 3 [P13] 0]) = some (i64 (1 + wq_Place X), (σ13 ++ [AObj.row 3 [P13] 0])) := q7_
      unfold Good at g1 g2 g3 g4 g5 g6 g7 g8 g9 g10 g11 g12 g13 g14 gQ
      have w0 : ¬ (((1 : Int) + wq_Program a + wq_Int64S t : Int) < 0) := by omega
      have w1 : ¬ ((1 : Int) + (wq_Place X : Nat) < 0) := by omega
      subst hQ
      subst hP1
      subst hP4
      subst hP13
      simp [-callN, -callT] at za zt sQ kv2 a1 uQ_1 kw1_0 a3 uQ_3 u2_3 a4 uQ_4 u2_4 kw4_2 uQ_5 u2_5 u5_5 q1_ a6 uQ_6 u2_6 u5_6 q2_ a7 uQ_7 u2_7 u5_7 q3_ a8 uQ_8 u2_8 u5_8 a9 uQ_9 u2_9 u5_9 q4_ a10 uQ_10 u2_10 u5_10 q5_ a11 uQ_11 u2_11 u5_11 a12 uQ_12 u2_12 u5_12 a13 uQ_13 u2_13 u5_13 kw13_2 uQ_14 u2_14 u5_14 u14_14 q6_ q7_
      simp [-callN, -callT, ac_laws_FnExactRunProgram, ct, show ¬ 1048576 < (t.length : Int) by omega, show ¬ 1048576 < t.length by omega, sa, show ¬ (((1048576 : Int) - Siz.size a : Int) < 0) by omega, za, zt, sQ, kv2, a1, uQ_1, kw1_0, a3, uQ_3, u2_3, a4, uQ_4, u2_4, kw4_2, uQ_5, u2_5, u5_5, q1_, a6, uQ_6, u2_6, u5_6, q2_, a7, uQ_7, u2_7, u5_7, q3_, a8, uQ_8, u2_8, u5_8, a9, uQ_9, u2_9, u5_9, q4_, a10, uQ_10, u2_10, u5_10, q5_, a11, uQ_11, u2_11, u5_11, a12, uQ_12, u2_12, u5_12, a13, uQ_13, u2_13, u5_13, kw13_2, uQ_14, u2_14, u5_14, u14_14, q6_, q7_, g1, g2, g3, g4, g5, g6, g7, g8, g9, g10, g11, g12, g13, g14, gQ, w0, w1]
    · rw [szR_no (by omega)] at ea
      have sa := fun σ => callN_lone (σ := σ) (by simp [PV.bels]) ea (by simp)
      simp [-callN, -callT] at sa
      simp [-callN, -callT, ac_laws_FnExactRunProgram, ct, show ¬ 1048576 < (t.length : Int) by omega, show ¬ 1048576 < t.length by omega, sa]
  · simp [ac_laws_FnExactRunProgram, show 1048576 < (t.length : Int) by omega, show 1048576 < t.length by omega]
end Go.Proofs.Ytegjfjckijmgcaa
