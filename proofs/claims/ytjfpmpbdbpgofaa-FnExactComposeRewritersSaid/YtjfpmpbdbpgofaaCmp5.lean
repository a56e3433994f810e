/- Rewriters composed: the reference's loops over the kinds. -/
import Derived.Test.YtjfpmpbdbpgofaaCmp2
set_option linter.unusedVariables false
set_option linter.unusedSimpArgs false
set_option maxRecDepth 100000
namespace Go.Proofs.Ytjfpmpbdbpgofaa
open Aw
/-- A new list under way, of flat elements, behind a state (what stands beside it may hold other memory). -/
structure FlJ {α : Type} [Enc α] [Own α] (σ0 : List AObj) (id : Nat) (f : Nat → α) (k : Nat) (s : List AObj × Nat) : Prop where
  l : Lst s.1 id s.2 (((List.range k).map f).map Enc.pv) [id] ((List.range k).map f)
  ge : σ0.length ≤ id
  e : Ext σ0 s.1
  g : Good s.1
  v : s.2 ≤ k
theorem FlJ.start {α : Type} [Enc α] [Own α] {σ : List AObj} (f : Nat → α) (g : Good σ) : FlJ σ σ.length f 0 (σ ++ [.row (Enc.sz α) [] 0], 0) :=
  ⟨by simpa using Lst.new (α := α) σ 0, Nat.le_refl _, Ext.snoc _ _, Good.snoc g (by simp [PV.bels]), Nat.le_refl 0⟩
theorem FlJ.ext {α : Type} [Enc α] [Own α] {σ0 : List AObj} {id : Nat} {f : Nat → α} {k : Nat} {σ τ : List AObj} {v : Nat} (h : FlJ σ0 id f k (σ, v)) (e : Ext σ τ) (g : Good τ) : FlJ σ0 id f k (τ, v) :=
  ⟨h.l.ext e, h.ge, h.e.trans e, g, h.v⟩
theorem FlJ.push {α : Type} [Enc α] [Own α] [Flat α] {σ0 : List AObj} {id : Nat} {f : Nat → α} {k : Nat} {s : List AObj × Nat} (h : FlJ σ0 id f k s) :
    FlJ σ0 id f (k + 1) (s.1.set id (.row (Enc.sz α) (((List.range k).map f).map Enc.pv ++ [Enc.pv (f k)]) (s.2 + 1)), s.2 + 1) := by
  have hp := h.l.push (own_flatE s.1 (f k)) (by simp)
  have e : (List.range (k + 1)).map f = (List.range k).map f ++ [f k] := by rw [List.range_succ]; simp
  refine ⟨?_, h.ge, h.e.set h.ge _, ?_, Nat.succ_le_succ h.v⟩
  · rw [e]; simpa using hp
  · refine Good.set h.g id _ _ ?_
    rw [bels_append, Bool.and_eq_true]
    exact ⟨Good.at h.g h.l.at, by simp only [PV.bels, Bool.and_true]; exact (own_flatE s.1 (f k)).bel⟩
/-- A run of the reference's, behind a state. -/
theorem reads_in {s : GRewriter} (hok : okRw s = true) {w : ByteArray} (hw : symWR w) (hL : w.size ≤ 100000) (q : Int) (stk : List Int) (B : Nat) (hB : B ≤ 1000) (h0 : RwI s B (q, stk, ⟨#[]⟩)) (ex : Bool) {σ : List AObj} (g : Good σ) :
    ∃ τ, callN fns i_spec_l06Reads [RwF s, i64 q, .list 1 (stk.map Enc.pv) ex, str w] σ = some (.ptr (σ.length + 1) 0 0 0, τ) ∧ Ext σ τ ∧ Good τ ∧ τ[σ.length]? = some (.row 1 ((goF s (q, stk, ⟨#[]⟩) w).2.1.map Enc.pv) 0) ∧
      τ[σ.length + 1]? = some (.row 4 [.agg [RwF s, i64 (goF s (q, stk, ⟨#[]⟩) w).1, .own σ.length 0 0 (goF s (q, stk, ⟨#[]⟩) w).2.1.length, .own (σ.length + 2) 0 0 (goF s (q, stk, ⟨#[]⟩) w).2.2.size]] 0) ∧
      τ[σ.length + 2]? = some (.row 1 ((goF s (q, stk, ⟨#[]⟩) w).2.2.data.toList.map Enc.pv) 0) := by
  have hr := ev_reads s hok w hw hL q stk B hB h0 ex
  generalize goF s (q, stk, ⟨#[]⟩) w = G at *
  have hc := callN_made (fns := fns) (f := i_spec_l06Reads) (args := [RwF s, i64 q, .list 1 (stk.map Enc.pv) ex, str w]) (σ := σ) (by simp [PV.bels, PV.bel]) hr
  have hm1 : ∀ (l : List Int) (n : Nat), PV.shs n (l.map Enc.pv) = l.map Enc.pv := by
    intro l n
    induction l with
    | nil => rfl
    | cons a l ih => simp only [List.map_cons, PV.shs, ih]; rfl
  have hm2 : ∀ (l : List UInt8) (n : Nat), PV.shs n (l.map Enc.pv) = l.map Enc.pv := by
    intro l n
    induction l with
    | nil => rfl
    | cons a l ih => simp only [List.map_cons, PV.shs, ih]; rfl
  have hf : ∀ n, PV.sh n (RwF s) = RwF s := fun n => PV.sh_bel0 _ (by simp [PV.bel])
  refine ⟨σ ++ (SR s G).map (AObj.sh σ.length), hc.trans ?_, ⟨_, rfl⟩, ?_, ?_, ?_, ?_⟩
  · simp only [behind, PV.sh]
    rw [Nat.add_comm 1]
  · refine Good.app (τ := SR s G) g ?_
    simp only [Good, SR, objsBel, List.length_cons, List.length_nil, Bool.and_true, Bool.and_eq_true]
    refine ⟨bels_map _ _, ?_, bels_map _ _⟩
    simp [PV.bels, PV.bel]
  · rw [List.getElem?_append_right (Nat.le_refl _)]
    simp [AObj.sh, hm1]
  · rw [List.getElem?_append_right (by omega)]
    have : σ.length + 1 - σ.length = 1 := by omega
    rw [this]
    have h2 := hf σ.length
    simp only [SR, List.map_cons, AObj.sh, PV.shs, PV.sh, List.getElem?_cons_succ, List.getElem?_cons_zero]
    first | (simp [PV.sh, PV.shs]; done) | (simp [PV.sh, PV.shs, Nat.add_comm]; done) | skip
  · rw [List.getElem?_append_right (by omega)]
    have : σ.length + 2 - σ.length = 2 := by omega
    rw [this]
    simp [AObj.sh, hm2]
@[simp] abbrev rwQ (x0 x1 : Int) (vb kb vr kr vi ki : Nat) : AObj := .row 5 [.agg [i64 x0, i64 x1, .own 2 vb 0 kb, .own 3 vr 0 kr, .own 4 vi 0 ki]] 0
noncomputable def P0 (r s : GRewriter) (z k : Nat) (id : Nat) (a15 a14 a13 a10 a8 a4 : PV) (m : Nat) (t : List AObj × Nat) (ks : List KI) : Option (PV × List AObj) :=
  rE fns fa_spec_ComposeRewriters 0 (.code lo_spec_ComposeRewriters_0 :: .inBlock 4 :: ks) [(22, i64 (m : Nat)), (21, .own id t.2 0 m), (16, i64 (k : Nat)), (15, a15), (14, a14), (13, a13), (12, i64 ((z % s.call.length : Nat) : Int)), (11, i64 ((z / s.call.length : Nat) : Int)), (10, a10), (9, .ptr 1 0 0 0), (8, a8), (7, i64 s.stack), (6, i64 s.call.length), (4, a4), (3, RwF s), (2, RwF r)] t.1
set_option maxHeartbeats 16000000 in
theorem ro_cm_0 {r s : GRewriter} (h : CmI r s) (z k : Nat) (hz : z < r.call.length * s.call.length) (hk : k < 2) {σ0 : List AObj} {x1 : Int} {vb kb vr kr vi ki : Nat} (hc : σ0[1]? = some (rwQ (r.stack * s.stack) x1 vb kb vr kr vi ki)) (id : Nat) {a15 a14 a13 a10 a8 a4 : PV} (hA : PV.bels σ0.length [a15, a14, a13, a10, a8, a4] = true) (m : Nat) (t : List AObj × Nat) (hm : m < cmM r s + 1) (hi0 : FlJ σ0 id (cmB r s z k) m t) :
    ∃ t' : List AObj × Nat, P0 r s z k id a15 a14 a13 a10 a8 a4 m t = P0 r s z k id a15 a14 a13 a10 a8 a4 (m + 1) t' ∧ FlJ σ0 id (cmB r s z k) (m + 1) t' := by
  obtain ⟨σ, v⟩ := t
  obtain ⟨b1, b2, b3, b4, b5, b6⟩ := cm_bounds h
  obtain ⟨g1, g2, g3, g4, g5⟩ := okRw_len h.hs
  obtain ⟨q1, q2, q3, q4, q5⟩ := okRw_len h.hr
  simp only [inR, Bool.and_eq_true, decide_eq_true_eq] at g1 g2 q1 q2
  have hx : z / s.call.length < r.call.length := (Nat.div_lt_iff_lt_mul (by omega)).2 hz
  have ho : ((m / s.stack.toNat : Nat) : Int) ≤ r.stack := by
    have : m / s.stack.toNat ≤ r.stack.toNat * s.stack.toNat / s.stack.toNat := Nat.div_le_div_right (by unfold cmM at hm; omega)
    rw [Nat.mul_div_cancel _ (by omega)] at this
    omega
  obtain ⟨ok, hi, hl, hl3, e⟩ := cmRet_ok h.hr hx hk ho
  obtain ⟨ok1, ok2⟩ := okMove_all ok
  have hso := okOut_size ok2
  obtain ⟨s1, s2⟩ := cmS_ok h m
  obtain ⟨h0, hG⟩ := cmG_ok h z (cmS r s m) s1 s2 ok2
  have hst := hG.st
  have hsz := hG.sz
  -- the state in which the run is asked for
  have gA : Good (σ ++ [.row 2 [(cmRet r (z / s.call.length) k (m / s.stack.toNat)).v] 0]) := Good.snoc hi0.g (by simp [PV.bels, PV.bel])
  obtain ⟨τ, hcall, hE, hgd, -, t1, t2⟩ := reads_in (s := s) h.hs (okOut_sym ok2) (by omega) _ (cmS r s m) 1 (by omega) h0 (decide (¬ m < cmM r s)) gA
  have hE2 : Ext σ τ := (Ext.snoc σ _).trans hE
  have hi1 := (hi0.ext hE2 hgd)
  have hL : (σ ++ [AObj.row 2 [(cmRet r (z / s.call.length) k (m / s.stack.toNat)).v] 0]).length = σ.length + 1 := by simp
  have tA : τ[σ.length]? = some (AObj.row 2 [(cmRet r (z / s.call.length) k (m / s.stack.toNat)).v] 0) := hE.get (by simp)
  have tc := hE2.get (hi0.e.get hc)
  have tcA : ∀ a : AObj, (σ ++ [a])[1]? = some (rwQ (r.stack * s.stack) x1 vb kb vr kr vi ki) := fun a => (Ext.snoc σ a).get (hi0.e.get hc)
  have tc0 := hi0.e.get hc
  have tl := hi1.l.at
  rw [hL] at hcall t1 t2
  refine ⟨_, ?_, hi1.push⟩
  have hv : v < 999999 := by have := hi0.v; simp only at this; omega
  have hkk : m < 1000 := by omega
  have eC : cmB r s z k m = ⟨(cmRet r (z / s.call.length) k (m / s.stack.toNat)).to * s.call.length + (goF s (((z % s.call.length : Nat) : Int), cmS r s m, ⟨#[]⟩) (cmRet r (z / s.call.length) k (m / s.stack.toNat)).out).1, (goF s (((z % s.call.length : Nat) : Int), cmS r s m, ⟨#[]⟩) (cmRet r (z / s.call.length) k (m / s.stack.toNat)).out).2.2⟩ := rfl
  unfold cmG at hst hsz
  rw [eC]
  rw [e] at hcall t1 t2 tA hst hsz ok1 ⊢
  clear eC hE hgd hi1 hG h0 ok ok2 gA
  have hmS : (m : Int) ≤ r.stack * s.stack := by omega
  have e1 : (m : Int).tdiv s.stack = ((m / s.stack.toNat : Nat) : Int) := by
    have := tqR m s.stack.toNat
    rwa [Int.toNat_of_nonneg (by omega)] at this
  have e2 : (m : Int).tmod s.stack = ((m % s.stack.toNat : Nat) : Int) := by
    have := trR m s.stack.toNat
    rwa [Int.toNat_of_nonneg (by omega)] at this
  have d1 : m / s.stack.toNat ≤ 64 := Nat.le_trans (Nat.div_le_self _ _) (by omega)
  have hw1 := wrap_i64 (n := m + 1) (by omega)
  have eS : cmS r s m = if m < cmM r s then [((m % s.stack.toNat : Nat) : Int)] else [] := rfl
  have hA2 := PV.bels_le hi0.e.len hA
  have hid : id < σ.length := hi0.l.lt id (by simp)
  have hl1 : 1 < σ.length := (List.getElem?_eq_some_iff.1 (hi0.e.get hc)).1
  simp only [PV.bels, Bool.and_true, Bool.and_eq_true] at hA2
  obtain ⟨u15, u14, u13, u10, u8, u4⟩ := hA2
  funext ks
  unfold P0
  rw [l_spec_ComposeRewriters_0]
  simp only
  generalize z / s.call.length = x at *
  generalize z % s.call.length = y at *
  generalize m / s.stack.toNat = o at *
  generalize m % s.stack.toNat = u at *
  have n0 : ¬ (s.stack = 0) := by omega
  have w0 := wrap_i64 (n := (o : Int)) (by omega)
  have bm : (m + 1) * 24 ≤ 140737488355328 := by omega
  by_cases c : m < cmM r s
  · rw [if_pos c] at eS
    rw [eS] at hst hsz hcall t1 t2 ⊢
    rw [show decide (¬ m < cmM r s) = false by simp [c]] at hcall
    have c' : (m : Int) < r.stack * s.stack := by omega
    generalize goF s ((y : Int), [(u : Int)], ⟨#[]⟩) (r.ret[x][k][o]).out = gg at *
    obtain ⟨G1, G2, G3⟩ := gg
    simp only [inR, Bool.and_eq_true, decide_eq_true_eq] at hst ok1 hsz
    have m1 : 0 ≤ (r.ret[x][k][o]).to * (s.call.length : Int) ∧ (r.ret[x][k][o]).to * (s.call.length : Int) ≤ 64 := by
      refine ⟨Int.mul_nonneg ok1.1 (by omega), ?_⟩
      exact Int.le_trans (Int.mul_le_mul (show (r.ret[x][k][o]).to ≤ 8 by omega) (show (s.call.length : Int) ≤ 8 by omega) (by omega) (by omega)) (by omega)
    have w1 := wrap_i64 (n := (r.ret[x][k][o]).to * (s.call.length : Int)) (by omega)
    have w2 := wrap_i64 (n := (r.ret[x][k][o]).to * (s.call.length : Int) + G1) (by omega)
    have h7 := numsOf_bytes G3
    have h8 := strOf_bytes G3
    have gs := hi0.g
    unfold Good at gs
    simp [-callN, c] at hcall t1 t2 tA tc tcA tl gs
    simp [hl1] at tc0
    simp (config := { maxSteps := 2000000 }) [-callN, lb_spec_ComposeRewriters_0, hmS, c', hcall, t1, t2, tA, tc, tcA, tc0, tl, e1, e2, n0, w0, w1, w2, hw1, hi, hl, hl3, h7, h8, hv, bm, gs, frBel, hid, hl1, u15, u14, u13, u10, u8, u4, setCells]
    done
  · rw [if_neg c] at eS
    rw [eS] at hst hsz hcall t1 t2 ⊢
    rw [show decide (¬ m < cmM r s) = true by simp [c]] at hcall
    have c' : ¬ (m : Int) < r.stack * s.stack := by omega
    generalize goF s ((y : Int), [], ⟨#[]⟩) (r.ret[x][k][o]).out = gg at *
    obtain ⟨G1, G2, G3⟩ := gg
    simp only [inR, Bool.and_eq_true, decide_eq_true_eq] at hst ok1 hsz
    have m1 : 0 ≤ (r.ret[x][k][o]).to * (s.call.length : Int) ∧ (r.ret[x][k][o]).to * (s.call.length : Int) ≤ 64 := by
      refine ⟨Int.mul_nonneg ok1.1 (by omega), ?_⟩
      exact Int.le_trans (Int.mul_le_mul (show (r.ret[x][k][o]).to ≤ 8 by omega) (show (s.call.length : Int) ≤ 8 by omega) (by omega) (by omega)) (by omega)
    have w1 := wrap_i64 (n := (r.ret[x][k][o]).to * (s.call.length : Int)) (by omega)
    have w2 := wrap_i64 (n := (r.ret[x][k][o]).to * (s.call.length : Int) + G1) (by omega)
    have h7 := numsOf_bytes G3
    have h8 := strOf_bytes G3
    simp [-callN, c] at hcall t1 t2 tA tc tcA tc0 tl
    simp (config := { maxSteps := 2000000 }) [-callN, lb_spec_ComposeRewriters_0, hmS, c', hcall, t1, t2, tA, tc, tcA, tc0, tl, e1, e2, n0, w0, w1, w2, hw1, hi, hl, hl3, h7, h8, hv, bm, setCells]
    done
end Go.Proofs.Ytjfpmpbdbpgofaa

set_option linter.unusedVariables false
set_option linter.unusedSimpArgs false
set_option maxRecDepth 100000
namespace Go.Proofs.Ytjfpmpbdbpgofaa
open Aw
theorem lo_cm_0 {r s : GRewriter} (h : CmI r s) (z k : Nat) (hz : z < r.call.length * s.call.length) (hk : k < 2) {σ : List AObj} {x1 : Int} {vb kb vr kr vi ki : Nat} (hc : σ[1]? = some (rwQ (r.stack * s.stack) x1 vb kb vr kr vi ki)) {a15 a14 a13 a10 a8 a4 : PV} (hA : PV.bels σ.length [a15, a14, a13, a10, a8, a4] = true) (g : Good σ) :
    ∃ t : List AObj × Nat, (∀ ks, rE fns fa_spec_ComposeRewriters 0 (.code lo_spec_ComposeRewriters_0 :: .inBlock 4 :: ks) [(22, i64 0), (21, .own σ.length 0 0 0), (16, i64 (k : Nat)), (15, a15), (14, a14), (13, a13), (12, i64 ((z % s.call.length : Nat) : Int)), (11, i64 ((z / s.call.length : Nat) : Int)), (10, a10), (9, .ptr 1 0 0 0), (8, a8), (7, i64 s.stack), (6, i64 s.call.length), (4, a4), (3, RwF s), (2, RwF r)] (σ ++ [.row 2 [] 0]) =
      rE fns fa_spec_ComposeRewriters 0 ks [(21, .own σ.length t.2 0 (cmM r s + 1)), (16, i64 (k : Nat)), (15, a15), (14, a14), (13, a13), (12, i64 ((z % s.call.length : Nat) : Int)), (11, i64 ((z / s.call.length : Nat) : Int)), (10, a10), (9, .ptr 1 0 0 0), (8, a8), (7, i64 s.stack), (6, i64 s.call.length), (4, a4), (3, RwF s), (2, RwF r)] t.1) ∧ FlJ σ σ.length (cmB r s z k) (cmM r s + 1) t := by
  obtain ⟨s1, k1, h1⟩ := loop_known (F := P0 r s z k σ.length a15 a14 a13 a10 a8 a4) (n := cmM r s + 1) (I := FlJ σ σ.length (cmB r s z k)) (fun m t hm hi => ro_cm_0 h z k hz hk hc σ.length hA m t hm hi) (FlJ.start (cmB r s z k) g)
  refine ⟨s1, fun ks => ?_, h1⟩
  obtain ⟨b1, b2, b3, b4, b5, b6⟩ := cm_bounds h
  have e := congrFun k1 ks
  unfold P0 at e
  have tc := h1.e.get hc
  have e2 : rE fns fa_spec_ComposeRewriters 0 (.code lo_spec_ComposeRewriters_0 :: .inBlock 4 :: ks) [(22, i64 ((cmM r s + 1 : Nat) : Int)), (21, .own σ.length s1.2 0 (cmM r s + 1)), (16, i64 (k : Nat)), (15, a15), (14, a14), (13, a13), (12, i64 ((z % s.call.length : Nat) : Int)), (11, i64 ((z / s.call.length : Nat) : Int)), (10, a10), (9, .ptr 1 0 0 0), (8, a8), (7, i64 s.stack), (6, i64 s.call.length), (4, a4), (3, RwF s), (2, RwF r)] s1.1 =
      rE fns fa_spec_ComposeRewriters 0 ks [(21, .own σ.length s1.2 0 (cmM r s + 1)), (16, i64 (k : Nat)), (15, a15), (14, a14), (13, a13), (12, i64 ((z % s.call.length : Nat) : Int)), (11, i64 ((z / s.call.length : Nat) : Int)), (10, a10), (9, .ptr 1 0 0 0), (8, a8), (7, i64 s.stack), (6, i64 s.call.length), (4, a4), (3, RwF s), (2, RwF r)] s1.1 := by
    rw [l_spec_ComposeRewriters_0]
    simp [-callN] at tc
    simp [lb_spec_ComposeRewriters_0, tc, show ¬ ((cmM r s : Int) + 1 ≤ r.stack * s.stack) by omega]
  rw [e2] at e
  simpa using e
abbrev S3J := List AObj × Nat × Nat × Nat
/-- The three lists of one state of the composed rewriter: the calls, the inner moves, the returns. -/
structure RjI (σ0 : List AObj) (C : Nat → GOutPush) (I : Nat → GOutMove) (B : Nat → Nat → GOutMove) (S : Nat) (k : Nat) (t : S3J) : Prop where
  p : Lst t.1 σ0.length t.2.1 (((List.range k).map C).map Enc.pv) [σ0.length] ((List.range k).map C)
  w : Lst t.1 (σ0.length + 1) t.2.2.1 (((List.range k).map I).map Enc.pv) [σ0.length + 1] ((List.range k).map I)
  q : ∃ es ids, Lst t.1 (σ0.length + 2) t.2.2.2 es ids ((List.range k).map fun k => (List.range (S + 1)).map (B k)) ∧ ∀ i ∈ ids, i = σ0.length + 2 ∨ σ0.length + 3 ≤ i
  e : Ext σ0 t.1
  g : Good t.1
  v : t.2.1 ≤ k ∧ t.2.2.1 ≤ k ∧ t.2.2.2 ≤ k
noncomputable def P1 (r s : GRewriter) (z n0 : Nat) (k : Nat) (t : S3J) (ks : List KI) : Option (PV × List AObj) :=
  rE fns fa_spec_ComposeRewriters 0 (.code lo_spec_ComposeRewriters_1 :: .inBlock 2 :: ks) [(16, i64 (k : Nat)), (15, .own (n0 + 2) t.2.2.2 0 k), (14, .own (n0 + 1) t.2.2.1 0 k), (13, .own n0 t.2.1 0 k), (12, i64 ((z % s.call.length : Nat) : Int)), (11, i64 ((z / s.call.length : Nat) : Int)), (10, i64 (z : Nat)), (9, .ptr 1 0 0 0), (8, i64 ((r.call.length : Int) * s.call.length)), (7, i64 s.stack), (6, i64 s.call.length), (4, .ptr 0 0 0 0), (3, RwF s), (2, RwF r)] t.1
set_option maxHeartbeats 32000000 in
theorem ro_cm_1 {r s : GRewriter} (h : CmI r s) (z : Nat) (hz : z < r.call.length * s.call.length) {σ0 : List AObj} {x1 : Int} {vb kb vr kr vi ki : Nat} (hc : σ0[1]? = some (rwQ (r.stack * s.stack) x1 vb kb vr kr vi ki)) (hl0 : 2 ≤ σ0.length) (k : Nat) (t : S3J) (hk : k < 2) (hi0 : RjI σ0 (cmC r s z) (cmI r s z) (cmB r s z) (cmM r s) k t) :
    ∃ t' : S3J, P1 r s z σ0.length k t = P1 r s z σ0.length (k + 1) t' ∧ RjI σ0 (cmC r s z) (cmI r s z) (cmB r s z) (cmM r s) (k + 1) t' := by
  obtain ⟨σ, v1, v2, v3⟩ := t
  obtain ⟨hp, hw, ⟨es, ids, hq, hqi⟩, he, hg, hv⟩ := hi0
  simp only at hp hw hq he hg hv
  obtain ⟨b1, b2, b3, b4, b5, b6⟩ := cm_bounds h
  obtain ⟨g1, g2, g3, g4, g5⟩ := okRw_len h.hs
  obtain ⟨q1, q2, q3, q4, q5⟩ := okRw_len h.hr
  simp only [inR, Bool.and_eq_true, decide_eq_true_eq] at g1 g2 q1 q2
  have hx : z / s.call.length < r.call.length := (Nat.div_lt_iff_lt_mul (by omega)).2 hz
  have hlen := he.len
  have hpl := hp.lt σ0.length (by simp)
  have hwl := hw.lt (σ0.length + 1) (by simp)
  have hql := hq.lt _ hq.mem
  -- the call's move
  have hpe := cmPush_pend h.hr h.st hx hk
  obtain ⟨okC, hiC, hlC, eC⟩ := cmPush_ok h.hr hx hk
  obtain ⟨okC1, okC2, okC3⟩ := okPush_all okC
  have hsoC := okOut_size okC2
  obtain ⟨h0C, hGC⟩ := cmG_ok h z [] (by simp) (by simp) okC2
  have hdp := goF_depth s ((z % s.call.length : Nat) : Int) (okOut_sym okC2)
  rw [hpe] at hdp
  have hstC := hGC.st
  have hmkC := hGC.mks
  have hszC := hGC.sz
  have gA : Good (σ ++ [.row 3 [(cmPush r (z / s.call.length) k).v] 0]) := Good.snoc hg (by simp [PV.bels, PV.bel])
  obtain ⟨τ1, hcall1, hE1, hgd1, t10, t11, t12⟩ := reads_in (s := s) h.hs (okOut_sym okC2) (by omega) _ [] 1 (by omega) h0C true gA
  have hE1' : Ext σ τ1 := (Ext.snoc σ _).trans hE1
  have hL1 : (σ ++ [AObj.row 3 [(cmPush r (z / s.call.length) k).v] 0]).length = σ.length + 1 := by simp
  have t1A : τ1[σ.length]? = some (AObj.row 3 [(cmPush r (z / s.call.length) k).v] 0) := hE1.get (by simp)
  rw [hL1] at hcall1 t10 t11 t12
  have p1 := hp.ext hE1'
  have at1 := p1.at
  have p2 := p1.push (own_flatE τ1 (cmC r s z k)) (by simp)
  have K1 := Keep.set τ1 σ0.length (.row (Enc.sz GOutPush) (((List.range k).map (cmC r s z)).map Enc.pv ++ [Enc.pv (cmC r s z k)]) (v1 + 1))
  have gB : Good (τ1.set σ0.length (.row (Enc.sz GOutPush) (((List.range k).map (cmC r s z)).map Enc.pv ++ [Enc.pv (cmC r s z k)]) (v1 + 1))) :=
    Good.set hgd1 _ _ _ (by rw [bels_append, bels_map]; simp only [PV.bels, Bool.and_true, Bool.true_and]; exact (own_flatE τ1 (cmC r s z k)).bel)
  have w1 := (hw.ext hE1').keep K1 (fun i hi hj => by simp at hi hj; omega)
  have y1 := (hq.ext hE1').keep K1 (fun i hi hj => by simp at hj; have := hqi i hi; omega)
  have tcB := K1.get (fun hh => by have := List.mem_singleton.1 hh; omega) (hE1'.get (he.get hc))
  have eB : Ext σ0 (τ1.set σ0.length (.row (Enc.sz GOutPush) (((List.range k).map (cmC r s z)).map Enc.pv ++ [Enc.pv (cmC r s z k)]) (v1 + 1))) := (he.trans hE1').set (by omega) _
  generalize hσ1 : τ1.set σ0.length (.row (Enc.sz GOutPush) (((List.range k).map (cmC r s z)).map Enc.pv ++ [Enc.pv (cmC r s z k)]) (v1 + 1)) = σ1 at *
  -- the inner move
  obtain ⟨okI, hiI, hlI, eI⟩ := cmInn_ok h.hr hx hk
  obtain ⟨okI1, okI2⟩ := okMove_all okI
  have hsoI := okOut_size okI2
  obtain ⟨h0I, hGI⟩ := cmG_ok h z [] (by simp) (by simp) okI2
  have hstI := hGI.st
  have gC : Good (σ1 ++ [.row 2 [(cmInn r (z / s.call.length) k).v] 0]) := Good.snoc gB (by simp [PV.bels, PV.bel])
  obtain ⟨τ2, hcall2, hE2, hgd2, -, t21, t22⟩ := reads_in (s := s) h.hs (okOut_sym okI2) (by omega) _ [] 1 (by omega) h0I true gC
  have hE2' : Ext σ1 τ2 := (Ext.snoc σ1 _).trans hE2
  have hL2 : (σ1 ++ [AObj.row 2 [(cmInn r (z / s.call.length) k).v] 0]).length = σ1.length + 1 := by simp
  have t2A : τ2[σ1.length]? = some (AObj.row 2 [(cmInn r (z / s.call.length) k).v] 0) := hE2.get (by simp)
  rw [hL2] at hcall2 t21 t22
  have p3 := p2.ext hE2'
  have w2 := w1.ext hE2'
  have at2 := w2.at
  have w3 := w2.push (own_flatE τ2 (cmI r s z k)) (by simp)
  have K2 := Keep.set τ2 (σ0.length + 1) (.row (Enc.sz GOutMove) (((List.range k).map (cmI r s z)).map Enc.pv ++ [Enc.pv (cmI r s z k)]) (v2 + 1))
  have gD : Good (τ2.set (σ0.length + 1) (.row (Enc.sz GOutMove) (((List.range k).map (cmI r s z)).map Enc.pv ++ [Enc.pv (cmI r s z k)]) (v2 + 1))) :=
    Good.set hgd2 _ _ _ (by rw [bels_append, bels_map]; simp only [PV.bels, Bool.and_true, Bool.true_and]; exact (own_flatE τ2 (cmI r s z k)).bel)
  have p4 := p3.keep K2 (fun i hi hj => by simp at hi hj; omega)
  have y2 := (y1.ext hE2').keep K2 (fun i hi hj => by simp at hj; have := hqi i hi; omega)
  have tcD := K2.get (fun hh => by have := List.mem_singleton.1 hh; omega) (hE2'.get tcB)
  have eD : Ext σ0 (τ2.set (σ0.length + 1) (.row (Enc.sz GOutMove) (((List.range k).map (cmI r s z)).map Enc.pv ++ [Enc.pv (cmI r s z k)]) (v2 + 1))) := (eB.trans hE2').set (by omega) _
  generalize hσ2 : τ2.set (σ0.length + 1) (.row (Enc.sz GOutMove) (((List.range k).map (cmI r s z)).map Enc.pv ++ [Enc.pv (cmI r s z k)]) (v2 + 1)) = σ2 at *
  have hl2 : σ0.length + 3 ≤ σ2.length := by have := y2.lt _ y2.mem; omega
  -- the returns
  obtain ⟨tt, k3, hf⟩ := lo_cm_0 h z k hz hk tcD (a15 := .own (σ0.length + 2) v3 0 k) (a14 := .own (σ0.length + 1) (v2 + 1) 0 (k + 1)) (a13 := .own σ0.length (v1 + 1) 0 (k + 1)) (a10 := i64 (z : Nat)) (a8 := i64 ((r.call.length : Int) * s.call.length)) (a4 := .ptr 0 0 0 0) (by simp [PV.bels, PV.bel]; omega) gD
  obtain ⟨τ3, vl⟩ := tt
  have hl := hf.l.own (by simp; omega)
  have hfe := hf.e
  have hfg := hf.g
  simp only [List.length_map, List.length_range] at hl hfe hfg
  have p5 := p4.ext hfe
  have w4 := w3.ext hfe
  have y3 := y2.ext hfe
  have at3 := y3.at
  have y4 := y3.push hl (fun i hi hj => by simp at hj; have := y2.lt i hi; omega)
  have K3 := Keep.set τ3 (σ0.length + 2) (.row (Enc.sz (List GOutMove)) (es ++ [.own σ2.length vl 0 (cmM r s + 1)]) (v3 + 1))
  have p6 := p5.keep K3 (fun i hi hj => by simp at hi hj; omega)
  have w5 := w4.keep K3 (fun i hi hj => by simp at hi hj; omega)
  refine ⟨(τ3.set (σ0.length + 2) (.row (Enc.sz (List GOutMove)) (es ++ [.own σ2.length vl 0 (cmM r s + 1)]) (v3 + 1)), v1 + 1, v2 + 1, v3 + 1), ?_, ⟨?_, ?_, ⟨_, _, by rw [map_succ]; exact y4, ?_⟩, ?_, ?_, by simp only; omega⟩⟩
  · funext ks
    unfold P1
    have hv1 : v1 < 999999 ∧ v2 < 999999 ∧ v3 < 999999 := by omega
    have hw1 := wrap_i64 (n := k + 1) (by omega)
    have lq := hq.len
    simp only [List.length_map, List.length_range] at lq
    have vC : cmC r s z k = ⟨(cmPush r (z / s.call.length) k).to * s.call.length + (goF s (((z % s.call.length : Nat) : Int), [], ⟨#[]⟩) (cmPush r (z / s.call.length) k).out).1, (cmPush r (z / s.call.length) k).put * s.stack + (goF s (((z % s.call.length : Nat) : Int), [], ⟨#[]⟩) (cmPush r (z / s.call.length) k).out).2.1.headD 0, (goF s (((z % s.call.length : Nat) : Int), [], ⟨#[]⟩) (cmPush r (z / s.call.length) k).out).2.2⟩ := rfl
    have vI : cmI r s z k = ⟨(cmInn r (z / s.call.length) k).to * s.call.length + (goF s (((z % s.call.length : Nat) : Int), [], ⟨#[]⟩) (cmInn r (z / s.call.length) k).out).1, (goF s (((z % s.call.length : Nat) : Int), [], ⟨#[]⟩) (cmInn r (z / s.call.length) k).out).2.2⟩ := rfl
    unfold cmG at hstC hmkC hstI
    have oC1 := okC1
    have oC3 := okC3
    have oI1 := okI1
    rw [eC] at hcall1 t10 t11 t12 t1A hdp hstC hmkC oC1 oC3 vC
    rw [eI] at hcall2 t21 t22 t2A hstI oI1 vI
    rw [vC] at hσ1
    rw [vI] at hσ2
    clear vC vI okC okI h0C h0I hGC hGI gA gB gC gD hgd1 hgd2 hE1 hE2 hE1' hE2' p1 p2 p3 p4 p5 p6 w1 w2 w3 w4 w5 y1 y2 y3 y4 eB eD hfe hfg hf hp hw hq he hg
    generalize z / s.call.length = x at *
    generalize z % s.call.length = y at *
    generalize goF s ((y : Int), [], ⟨#[]⟩) (r.call[x][k]).out = gg at *
    obtain ⟨G1, G2, G3⟩ := gg
    obtain ⟨u, rfl⟩ := len_one hdp
    have hu := hmkC u (by simp)
    generalize goF s ((y : Int), [], ⟨#[]⟩) (r.inner[x][k]).out = gi at *
    obtain ⟨I1, I2, I3⟩ := gi
    simp only [inR, Bool.and_eq_true, decide_eq_true_eq] at hstC oC1 oC3 hu hstI oI1
    have m1 : 0 ≤ (r.call[x][k]).to * (s.call.length : Int) ∧ (r.call[x][k]).to * (s.call.length : Int) ≤ 64 := by
      refine ⟨Int.mul_nonneg oC1.1 (by omega), ?_⟩
      exact Int.le_trans (Int.mul_le_mul (show (r.call[x][k]).to ≤ 8 by omega) (show (s.call.length : Int) ≤ 8 by omega) (by omega) (by omega)) (by omega)
    have m2 : 0 ≤ (r.call[x][k]).put * s.stack ∧ (r.call[x][k]).put * s.stack ≤ 64 := by
      refine ⟨Int.mul_nonneg oC3.1 (by omega), ?_⟩
      exact Int.le_trans (Int.mul_le_mul (show (r.call[x][k]).put ≤ 8 by omega) (show s.stack ≤ 8 by omega) (by omega) (by omega)) (by omega)
    have m3 : 0 ≤ (r.inner[x][k]).to * (s.call.length : Int) ∧ (r.inner[x][k]).to * (s.call.length : Int) ≤ 64 := by
      refine ⟨Int.mul_nonneg oI1.1 (by omega), ?_⟩
      exact Int.le_trans (Int.mul_le_mul (show (r.inner[x][k]).to ≤ 8 by omega) (show (s.call.length : Int) ≤ 8 by omega) (by omega) (by omega)) (by omega)
    have w1 := wrap_i64 (n := (r.call[x][k]).to * (s.call.length : Int)) (by omega)
    have w2 := wrap_i64 (n := (r.call[x][k]).to * (s.call.length : Int) + G1) (by omega)
    have w3 := wrap_i64 (n := (r.call[x][k]).put * s.stack) (by omega)
    have w4 := wrap_i64 (n := (r.call[x][k]).put * s.stack + u) (by omega)
    have w5 := wrap_i64 (n := (r.inner[x][k]).to * (s.call.length : Int)) (by omega)
    have w6 := wrap_i64 (n := (r.inner[x][k]).to * (s.call.length : Int) + I1) (by omega)
    have h7 := numsOf_bytes G3
    have h8 := strOf_bytes G3
    have h9 := numsOf_bytes I3
    have h10 := strOf_bytes I3
    have bb : (k + 1) * 24 ≤ 140737488355328 ∧ (k + 1) * 32 ≤ 140737488355328 := by omega
    have hk2 : (k : Int) < 2 := by omega
    rw [l_spec_ComposeRewriters_1]
    subst lq
    simp [-callN] at hcall1 t10 t11 t12 t1A hcall2 t21 t22 t2A at1 at2 at3 hσ1 hσ2 k3 tcD
    simp (config := { maxSteps := 2000000 }) [-callN, lb_spec_ComposeRewriters_1, hk, hk2, hcall1, t10, t11, t12, t1A, hcall2, t21, t22, t2A, at1, at2, at3, hσ1, hσ2, k3, tcD, hiC, hlC, hiI, hlI, w1, w2, w3, w4, w5, w6, hw1, h7, h8, h9, h10, hv1, bb, setCells]
    done
  · simp only; rw [map_succ]; simpa using p6
  · simp only; rw [map_succ]; simpa using w5
  · intro i hi
    rcases List.mem_append.1 hi with hi | hi
    · exact hqi i hi
    · simp at hi; omega
  · simp only; exact (eD.trans hfe).set (by omega) _
  · exact Good.set hfg _ _ _ (by rw [bels_append, Bool.and_eq_true]; exact ⟨Good.at hfg at3, by simp only [PV.bels, Bool.and_true]; exact hl.bel⟩)
end Go.Proofs.Ytjfpmpbdbpgofaa
