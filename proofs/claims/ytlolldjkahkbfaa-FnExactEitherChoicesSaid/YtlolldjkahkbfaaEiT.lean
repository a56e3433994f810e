/- Both choices: the reference's loop over the kinds. -/
import Derived.Test.YtlolldjkahkbfaaEiF
set_option linter.unusedVariables false
set_option linter.unusedSimpArgs false
set_option maxRecDepth 100000
namespace Go.Proofs.Ytlolldjkahkbfaa
open Aw
noncomputable def Q0 (n0 : Nat) (x : GChoices) (st mk : Int) (s q : Nat) (id : Nat) (a13 a12 a11 a4 : PV) (k : Nat) (t : List AObj × Nat) (ks : List KI) : Option (PV × List AObj) :=
  rE fns fa_spec_l03Part n0 (.code lo_spec_l03Part_0 :: .inBlock 4 :: ks) [(16, i64 (k : Nat)), (15, .own id t.2 0 k), (14, i64 (q : Nat)), (13, a13), (12, a12), (11, a11), (10, i64 (s : Nat)), (4, a4), (3, i64 mk), (2, i64 st), (1, ChP x), (0, .ptr 1 0 0 0)] t.1
set_option maxHeartbeats 4000000 in
theorem rq_ei_0 (n0 : Nat) (x : GChoices) (st mk : Int) (s q : Nat) (hs : s < x.call.length) (hq : q < x.call[s].length) (hc : ∀ p ∈ x.call[s][q], 0 ≤ p.to ∧ p.to ≤ 1000 ∧ 0 ≤ p.put ∧ p.put ≤ 1000) (hl : x.call[s][q].length ≤ 1000) (h1 : 0 ≤ st ∧ st ≤ 1000) (h2 : 0 ≤ mk ∧ mk ≤ 1000) {σ0 : List AObj} (id : Nat) (a13 a12 a11 a4 : PV) (k : Nat) (t : List AObj × Nat) (hk : k < x.call[s][q].length) (hi : FlI σ0 id (eiP x.call[s][q] st mk) k t) :
    ∃ t' : List AObj × Nat, Q0 n0 x st mk s q id a13 a12 a11 a4 k t = Q0 n0 x st mk s q id a13 a12 a11 a4 (k + 1) t' ∧ FlI σ0 id (eiP x.call[s][q] st mk) (k + 1) t' := by
  obtain ⟨σ, v⟩ := t
  have hg : Good (σ ++ [.row 2 [x.call[s][q][k].v] 0]) := Good.snoc hi.g (by simp [PV.bels, PV.bel])
  have hn : Nl [] (σ ++ [.row 2 [x.call[s][q][k].v] 0]) := hi.n.app (by simp [AObj.nl, PV.nls, PV.nl])
  have hi1 := hi.ext (Ext.snoc σ _) hg hn
  refine ⟨_, ?_, hi1.push (nl_pushE _)⟩
  have tl := hi1.l.at
  have hv : v < 999999 := by have := hi.v; simp only at this; omega
  have hp := hc _ (List.getElem_mem hk)
  have eP : eiP x.call[s][q] st mk k = ⟨x.call[s][q][k].to + st, x.call[s][q][k].put + mk⟩ := by unfold eiP; simp [List.getD_eq_getElem?_getD, hk]
  rw [eP]
  have w1 := wrap_i64 (n := x.call[s][q][k].to + st) (by omega)
  have w2 := wrap_i64 (n := x.call[s][q][k].put + mk) (by omega)
  have w3 := wrap_i64 (n := k + 1) (by omega)
  have hlt : (k : Int) < x.call[s][q].length := by omega
  have b1 : (k + 1) * 16 ≤ 140737488355328 := by omega
  funext ks
  unfold Q0
  rw [l_spec_l03Part_0]
  simp [-callN] at tl
  simp [-callN, lb_spec_l03Part_0, hs, hq, hk, hlt, tl, w1, w2, w3, hv, b1, setCells]
  done
theorem lq_ei_0 (n0 : Nat) (x : GChoices) (st mk : Int) (s q : Nat) (hs : s < x.call.length) (hq : q < x.call[s].length) (hc : ∀ p ∈ x.call[s][q], 0 ≤ p.to ∧ p.to ≤ 1000 ∧ 0 ≤ p.put ∧ p.put ≤ 1000) (hl : x.call[s][q].length ≤ 1000) (h1 : 0 ≤ st ∧ st ≤ 1000) (h2 : 0 ≤ mk ∧ mk ≤ 1000) {σ : List AObj} (g : Good σ) (n : Nl [] σ) (a13 a12 a11 a4 : PV) :
    ∃ t : List AObj × Nat, (∀ ks, rE fns fa_spec_l03Part n0 (.code lo_spec_l03Part_0 :: .inBlock 4 :: ks) [(16, i64 0), (15, .own σ.length 0 0 0), (14, i64 (q : Nat)), (13, a13), (12, a12), (11, a11), (10, i64 (s : Nat)), (4, a4), (3, i64 mk), (2, i64 st), (1, ChP x), (0, .ptr 1 0 0 0)] (σ ++ [.row 2 [] 0]) =
      rE fns fa_spec_l03Part n0 ks [(15, .own σ.length t.2 0 x.call[s][q].length), (14, i64 (q : Nat)), (13, a13), (12, a12), (11, a11), (10, i64 (s : Nat)), (4, a4), (3, i64 mk), (2, i64 st), (1, ChP x), (0, .ptr 1 0 0 0)] t.1) ∧ FlI σ σ.length (eiP x.call[s][q] st mk) x.call[s][q].length t := by
  obtain ⟨s1, k1, h1'⟩ := loop_known (F := Q0 n0 x st mk s q σ.length a13 a12 a11 a4) (n := x.call[s][q].length) (I := FlI σ σ.length (eiP x.call[s][q] st mk)) (fun k t hk hi => rq_ei_0 n0 x st mk s q hs hq hc hl h1 h2 σ.length a13 a12 a11 a4 k t hk hi) (FlI.start (eiP x.call[s][q] st mk) g n)
  refine ⟨s1, fun ks => ?_, h1'⟩
  have e := congrFun k1 ks
  unfold Q0 at e
  have e2 : rE fns fa_spec_l03Part n0 (.code lo_spec_l03Part_0 :: .inBlock 4 :: ks) [(16, i64 (x.call[s][q].length : Nat)), (15, .own σ.length s1.2 0 x.call[s][q].length), (14, i64 (q : Nat)), (13, a13), (12, a12), (11, a11), (10, i64 (s : Nat)), (4, a4), (3, i64 mk), (2, i64 st), (1, ChP x), (0, .ptr 1 0 0 0)] s1.1 =
      rE fns fa_spec_l03Part n0 ks [(15, .own σ.length s1.2 0 x.call[s][q].length), (14, i64 (q : Nat)), (13, a13), (12, a12), (11, a11), (10, i64 (s : Nat)), (4, a4), (3, i64 mk), (2, i64 st), (1, ChP x), (0, .ptr 1 0 0 0)] s1.1 := by
    rw [l_spec_l03Part_0]
    simp [lb_spec_l03Part_0, hs, hq]
  rw [e2] at e
  exact e
/-- A list of lists under way, behind a state. -/
structure LnI (σ0 : List AObj) (id : Nat) (xs : List (List Int)) (t : List AObj × Nat) : Prop where
  l : ∃ es ids, Lst t.1 id t.2 es ids xs ∧ ∀ i ∈ ids, σ0.length ≤ i
  e : Ext σ0 t.1
  g : Good t.1
  n : Nl [] t.1
  v : t.2 ≤ xs.length
theorem LnI.start {σ : List AObj} (g : Good σ) (n : Nl [] σ) : LnI σ σ.length [] (σ ++ [.row 1 [] 0], 0) :=
  ⟨⟨_, _, Lst.new (α := List Int) σ 0, fun i hi => by simp at hi; omega⟩, Ext.snoc _ _, Good.snoc g (by simp [PV.bels]), n.app (by simp [AObj.nl, PV.nls]), Nat.le_refl _⟩
theorem LnI.push {σ0 σ : List AObj} {id v : Nat} {xs : List (List Int)} (h : LnI σ0 id xs (σ, v)) :
    ∃ es, σ[id]? = some (.row 1 es v) ∧ es.length = xs.length ∧ ∀ σ', Ext σ σ' → Good σ' → Nl [] σ' → ∀ js p x, OwnIn σ' js p x → (∀ i ∈ js, σ.length ≤ i) → LnI σ0 id (xs ++ [x]) (σ'.set id (.row 1 (es ++ [p]) (v + 1)), v + 1) := by
  obtain ⟨es, ids, l, hd⟩ := h.l
  refine ⟨es, l.at, l.len, fun σ' e g n js p x o hj => ?_⟩
  have l' := l.ext e
  have hlt := l.lt
  simp only at hlt l'
  have hp := l'.push o (fun i hi hm => by have := hlt i hi; have := hj i hm; omega)
  have he := h.e
  refine ⟨⟨_, _, hp, fun i hi => ?_⟩, (he.trans e).set (hd id l.mem) _, ?_, ?_, ?_⟩
  · rcases List.mem_append.1 hi with hi | hi
    · exact hd i hi
    · have := hj i hi; have := he.len; simp only at this; omega
  · exact Good.set g _ _ _ (by rw [bels_append, Bool.and_eq_true]; exact ⟨Good.at g l'.at, by simp only [PV.bels, Bool.and_true]; exact o.bel⟩)
  · exact n.set _ (row_nl (nls_append (n.at (by simp) l'.at) (by simp only [PV.nls, Bool.and_true]; exact Own.nl o.own)))
  · have := h.v; simp only [List.length_append, List.length_singleton] at this ⊢; omega
theorem ownNew (σ : List AObj) : OwnIn (σ ++ [.row 1 [] 0]) [σ.length] (.own σ.length 0 0 0) ([] : List Int) := by
  have := (Lst.new (α := Int) σ 0).own (by simp)
  simpa using this
noncomputable def Q1 (n0 : Nat) (x : GChoices) (st : Int) (mk s q : Nat) (id : Nat) (a13 a12 a11 a4 : PV) (k : Nat) (t : List AObj × Nat) (ks : List KI) : Option (PV × List AObj) :=
  rE fns fa_spec_l03Part n0 (.code lo_spec_l03Part_1 :: .inBlock 6 :: ks) [(19, i64 (k : Nat)), (18, .own id t.2 0 k), (14, i64 (q : Nat)), (13, a13), (12, a12), (11, a11), (10, i64 (s : Nat)), (4, a4), (3, i64 (mk : Nat)), (2, i64 st), (1, ChP x), (0, .ptr 1 0 0 0)] t.1
set_option maxHeartbeats 4000000 in
theorem rq_ei_1 (n0 : Nat) (x : GChoices) (st : Int) (mk s q : Nat) (hm : mk ≤ 1000) {σ0 : List AObj} (id : Nat) (a13 a12 a11 a4 : PV) (k : Nat) (t : List AObj × Nat) (hk : k < mk) (hi : LnI σ0 id (List.replicate k []) t) :
    ∃ t' : List AObj × Nat, Q1 n0 x st mk s q id a13 a12 a11 a4 k t = Q1 n0 x st mk s q id a13 a12 a11 a4 (k + 1) t' ∧ LnI σ0 id (List.replicate (k + 1) []) t' := by
  obtain ⟨σ, v⟩ := t
  obtain ⟨es, hat, hlen, hp⟩ := hi.push
  have hlt0 := (List.getElem?_eq_some_iff.1 hat).1
  have := hp _ (Ext.snoc σ (.row 1 [] 0)) (Good.snoc hi.g (by simp [PV.bels])) (hi.n.app (by simp [AObj.nl, PV.nls])) _ _ _ (ownNew σ) (fun i hi => by simp at hi; omega)
  refine ⟨_, ?_, by rw [List.replicate_succ']; exact this⟩
  have tl := (Ext.snoc σ (.row 1 [] 0)).get hat
  have hv : v < 999999 := by have := hi.v; simp at this; omega
  have w3 := wrap_i64 (n := k + 1) (by omega)
  have hlt : (k : Int) < mk := by omega
  have b1 : (k + 1) * 24 ≤ 140737488355328 := by omega
  simp at hlen
  funext ks
  unfold Q1
  rw [l_spec_l03Part_1]
  simp [-callN, lb_spec_l03Part_1, hk, hlt, hat, tl, hlen, w3, hv, b1, setCells]
  done
noncomputable def Q2 (n0 : Nat) (x : GChoices) (st : Int) (pre s q : Nat) (id : Nat) (a13 a12 a11 a4 a3 : PV) (k : Nat) (t : List AObj × Nat) (ks : List KI) : Option (PV × List AObj) :=
  rE fns fa_spec_l03Part n0 (.code lo_spec_l03Part_2 :: .inBlock 8 :: ks) [(20, i64 (k : Nat)), (18, .own id t.2 0 (pre + k)), (14, i64 (q : Nat)), (13, a13), (12, a12), (11, a11), (10, i64 (s : Nat)), (4, a4), (3, a3), (2, i64 st), (1, ChP x), (0, .ptr 1 0 0 0)] t.1
set_option maxHeartbeats 4000000 in
theorem rq_ei_2 (n0 : Nat) (x : GChoices) (X : Nat) (hX : x.stack = (X : Int)) (hXb : X ≤ 1000) (st : Int) (h1 : 0 ≤ st ∧ st ≤ 1000) (s q : Nat) (hs : s < x.ret.length) (hq : q < x.ret[s].length) (hR : x.ret[s][q].length = X + 1) (hl : ∀ l ∈ x.ret[s][q], l.length ≤ 1000 ∧ ∀ y ∈ l, 0 ≤ y ∧ y ≤ 1000) (pre : List (List Int)) (hpre : pre.length ≤ 1000) {σ0 : List AObj} (id : Nat) (a13 a12 a11 a4 a3 : PV) (k : Nat) (t : List AObj × Nat) (hk : k < X) (hi : LnI σ0 id (pre ++ (List.range k).map fun j => raiL (x.ret[s][q].getD j []) st) t) :
    ∃ t' : List AObj × Nat, Q2 n0 x st pre.length s q id a13 a12 a11 a4 a3 k t = Q2 n0 x st pre.length s q id a13 a12 a11 a4 a3 (k + 1) t' ∧ LnI σ0 id (pre ++ (List.range (k + 1)).map fun j => raiL (x.ret[s][q].getD j []) st) t' := by
  obtain ⟨σ, v⟩ := t
  obtain ⟨es, hat, hlen, hp⟩ := hi.push
  have hlt0 := (List.getElem?_eq_some_iff.1 hat).1
  have hkR : k < x.ret[s][q].length := by omega
  obtain ⟨n1, n2⟩ := hl _ (List.getElem_mem hkR)
  obtain ⟨ho, hgn⟩ := own_rai x.ret[s][q][k] st n1
  have hra := ev_spec_l03Raised x.ret[s][q][k] st n2 h1 n1
  obtain ⟨p', τ, ids', hbe, o', hfr, g', e', n'⟩ := made_in (σ := σ) (js := []) ho hgn hi.g hi.n
  have hcall := callN_made (fns := fns) (f := i_spec_l03Raised) (args := [lst 1 x.ret[s][q][k], i64 st]) (σ := σ) (by simp [PV.bels, PV.bel]) hra
  rw [hbe] at hcall
  obtain ⟨id', rfl⟩ : ∃ id', p' = .own id' x.ret[s][q][k].length 0 x.ret[s][q][k].length := by
    have h0 : p' = (PV.own 0 x.ret[s][q][k].length 0 x.ret[s][q][k].length).sh σ.length := (congrArg Prod.fst hbe).symm
    exact ⟨_, by rw [h0]; rfl⟩
  have := hp _ e' g' n' _ _ _ o' hfr
  refine ⟨_, ?_, by rw [map_succ (fun j => raiL (x.ret[s][q].getD j []) st) k, ← List.append_assoc, getD_at' hkR]; exact this⟩
  have tl := e'.get hat
  have hv : v < 999999 := by have := hi.v; simp at this; omega
  have w3 := wrap_i64 (n := k + 1) (by omega)
  have hlt : (k : Int) < x.stack := by omega
  have b1 : (pre.length + k + 1) * 24 ≤ 140737488355328 := by omega
  simp at hlen
  have hz : pre.length + k + 1 = pre.length + (k + 1) := by omega
  funext ks
  unfold Q2
  rw [l_spec_l03Part_2]
  simp [-callN] at tl hcall
  simp [-callN, lb_spec_l03Part_2, hs, hq, hkR, hlt, hcall, hat, tl, hlen, w3, hv, b1, ← hz, setCells]
  done
noncomputable def Q3 (n0 : Nat) (x : GChoices) (st : Int) (af pre s q : Nat) (id : Nat) (a13 a12 a11 a3 : PV) (k : Nat) (t : List AObj × Nat) (ks : List KI) : Option (PV × List AObj) :=
  rE fns fa_spec_l03Part n0 (.code lo_spec_l03Part_3 :: .inBlock 10 :: ks) [(21, i64 (k : Nat)), (18, .own id t.2 0 (pre + k)), (14, i64 (q : Nat)), (13, a13), (12, a12), (11, a11), (10, i64 (s : Nat)), (4, i64 (af : Nat)), (3, a3), (2, i64 st), (1, ChP x), (0, .ptr 1 0 0 0)] t.1
set_option maxHeartbeats 4000000 in
theorem rq_ei_3 (n0 : Nat) (x : GChoices) (st : Int) (af s q : Nat) (hm : af ≤ 1000) (pre : List (List Int)) (hpre : pre.length ≤ 2000) {σ0 : List AObj} (id : Nat) (a13 a12 a11 a3 : PV) (k : Nat) (t : List AObj × Nat) (hk : k < af) (hi : LnI σ0 id (pre ++ List.replicate k []) t) :
    ∃ t' : List AObj × Nat, Q3 n0 x st af pre.length s q id a13 a12 a11 a3 k t = Q3 n0 x st af pre.length s q id a13 a12 a11 a3 (k + 1) t' ∧ LnI σ0 id (pre ++ List.replicate (k + 1) []) t' := by
  obtain ⟨σ, v⟩ := t
  obtain ⟨es, hat, hlen, hp⟩ := hi.push
  have hlt0 := (List.getElem?_eq_some_iff.1 hat).1
  have := hp _ (Ext.snoc σ (.row 1 [] 0)) (Good.snoc hi.g (by simp [PV.bels])) (hi.n.app (by simp [AObj.nl, PV.nls])) _ _ _ (ownNew σ) (fun i hi => by simp at hi; omega)
  refine ⟨_, ?_, by rw [List.replicate_succ', ← List.append_assoc]; exact this⟩
  have tl := (Ext.snoc σ (.row 1 [] 0)).get hat
  have hv : v < 999999 := by have := hi.v; simp at this; omega
  have w3 := wrap_i64 (n := k + 1) (by omega)
  have hlt : (k : Int) < af := by omega
  have b1 : (pre.length + k + 1) * 24 ≤ 140737488355328 := by omega
  simp at hlen
  have hz : pre.length + k + 1 = pre.length + (k + 1) := by omega
  funext ks
  unfold Q3
  rw [l_spec_l03Part_3]
  simp [-callN, lb_spec_l03Part_3, hk, hlt, hat, tl, hlen, w3, hv, b1, ← hz, setCells]
  done
theorem lq_ei_1 (n0 : Nat) (x : GChoices) (st : Int) (mk s q : Nat) (hm : mk ≤ 1000) {σ : List AObj} (g : Good σ) (n : Nl [] σ) (a13 a12 a11 a4 : PV) :
    ∃ t : List AObj × Nat, (∀ ks, rE fns fa_spec_l03Part n0 (.code lo_spec_l03Part_1 :: .inBlock 6 :: ks) [(19, i64 0), (18, .own σ.length 0 0 0), (14, i64 (q : Nat)), (13, a13), (12, a12), (11, a11), (10, i64 (s : Nat)), (4, a4), (3, i64 (mk : Nat)), (2, i64 st), (1, ChP x), (0, .ptr 1 0 0 0)] (σ ++ [.row 1 [] 0]) =
      rE fns fa_spec_l03Part n0 ks [(18, .own σ.length t.2 0 mk), (14, i64 (q : Nat)), (13, a13), (12, a12), (11, a11), (10, i64 (s : Nat)), (4, a4), (3, i64 (mk : Nat)), (2, i64 st), (1, ChP x), (0, .ptr 1 0 0 0)] t.1) ∧ LnI σ σ.length (List.replicate mk []) t := by
  obtain ⟨s1, k1, h1'⟩ := loop_known (F := Q1 n0 x st mk s q σ.length a13 a12 a11 a4) (n := mk) (I := fun k t => LnI σ σ.length (List.replicate k []) t) (fun k t hk hi => rq_ei_1 n0 x st mk s q hm σ.length a13 a12 a11 a4 k t hk hi) (LnI.start g n)
  refine ⟨s1, fun ks => ?_, h1'⟩
  have e := congrFun k1 ks
  unfold Q1 at e
  have e2 : rE fns fa_spec_l03Part n0 (.code lo_spec_l03Part_1 :: .inBlock 6 :: ks) [(19, i64 (mk : Nat)), (18, .own σ.length s1.2 0 mk), (14, i64 (q : Nat)), (13, a13), (12, a12), (11, a11), (10, i64 (s : Nat)), (4, a4), (3, i64 (mk : Nat)), (2, i64 st), (1, ChP x), (0, .ptr 1 0 0 0)] s1.1 =
      rE fns fa_spec_l03Part n0 ks [(18, .own σ.length s1.2 0 mk), (14, i64 (q : Nat)), (13, a13), (12, a12), (11, a11), (10, i64 (s : Nat)), (4, a4), (3, i64 (mk : Nat)), (2, i64 st), (1, ChP x), (0, .ptr 1 0 0 0)] s1.1 := by
    rw [l_spec_l03Part_1]
    simp [lb_spec_l03Part_1]
  rw [e2] at e
  exact e
theorem lq_ei_2 (n0 : Nat) (x : GChoices) (X : Nat) (hX : x.stack = (X : Int)) (hXb : X ≤ 1000) (st : Int) (h1 : 0 ≤ st ∧ st ≤ 1000) (s q : Nat) (hs : s < x.ret.length) (hq : q < x.ret[s].length) (hR : x.ret[s][q].length = X + 1) (hl : ∀ l ∈ x.ret[s][q], l.length ≤ 1000 ∧ ∀ y ∈ l, 0 ≤ y ∧ y ≤ 1000) (pre : List (List Int)) (hpre : pre.length ≤ 1000) {σ0 : List AObj} {id : Nat} {t0 : List AObj × Nat} (h0 : LnI σ0 id pre t0) (a13 a12 a11 a4 a3 : PV) :
    ∃ t : List AObj × Nat, (∀ ks, rE fns fa_spec_l03Part n0 (.code lo_spec_l03Part_2 :: .inBlock 8 :: ks) [(20, i64 0), (18, .own id t0.2 0 pre.length), (14, i64 (q : Nat)), (13, a13), (12, a12), (11, a11), (10, i64 (s : Nat)), (4, a4), (3, a3), (2, i64 st), (1, ChP x), (0, .ptr 1 0 0 0)] t0.1 =
      rE fns fa_spec_l03Part n0 ks [(18, .own id t.2 0 (pre.length + X)), (14, i64 (q : Nat)), (13, a13), (12, a12), (11, a11), (10, i64 (s : Nat)), (4, a4), (3, a3), (2, i64 st), (1, ChP x), (0, .ptr 1 0 0 0)] t.1) ∧ LnI σ0 id (pre ++ (List.range X).map fun j => raiL (x.ret[s][q].getD j []) st) t := by
  obtain ⟨s1, k1, h1'⟩ := loop_known (F := Q2 n0 x st pre.length s q id a13 a12 a11 a4 a3) (n := X) (I := fun k t => LnI σ0 id (pre ++ (List.range k).map fun j => raiL (x.ret[s][q].getD j []) st) t) (fun k t hk hi => rq_ei_2 n0 x X hX hXb st h1 s q hs hq hR hl pre hpre id a13 a12 a11 a4 a3 k t hk hi) (s := t0) (by simpa using h0)
  refine ⟨s1, fun ks => ?_, h1'⟩
  have e := congrFun k1 ks
  unfold Q2 at e
  have e2 : rE fns fa_spec_l03Part n0 (.code lo_spec_l03Part_2 :: .inBlock 8 :: ks) [(20, i64 (X : Nat)), (18, .own id s1.2 0 (pre.length + X)), (14, i64 (q : Nat)), (13, a13), (12, a12), (11, a11), (10, i64 (s : Nat)), (4, a4), (3, a3), (2, i64 st), (1, ChP x), (0, .ptr 1 0 0 0)] s1.1 =
      rE fns fa_spec_l03Part n0 ks [(18, .own id s1.2 0 (pre.length + X)), (14, i64 (q : Nat)), (13, a13), (12, a12), (11, a11), (10, i64 (s : Nat)), (4, a4), (3, a3), (2, i64 st), (1, ChP x), (0, .ptr 1 0 0 0)] s1.1 := by
    rw [l_spec_l03Part_2]
    simp [lb_spec_l03Part_2, hX]
  rw [e2] at e
  exact e
theorem lq_ei_3 (n0 : Nat) (x : GChoices) (st : Int) (af s q : Nat) (hm : af ≤ 1000) (pre : List (List Int)) (hpre : pre.length ≤ 2000) {σ0 : List AObj} {id : Nat} {t0 : List AObj × Nat} (h0 : LnI σ0 id pre t0) (a13 a12 a11 a3 : PV) :
    ∃ t : List AObj × Nat, (∀ ks, rE fns fa_spec_l03Part n0 (.code lo_spec_l03Part_3 :: .inBlock 10 :: ks) [(21, i64 0), (18, .own id t0.2 0 pre.length), (14, i64 (q : Nat)), (13, a13), (12, a12), (11, a11), (10, i64 (s : Nat)), (4, i64 (af : Nat)), (3, a3), (2, i64 st), (1, ChP x), (0, .ptr 1 0 0 0)] t0.1 =
      rE fns fa_spec_l03Part n0 ks [(18, .own id t.2 0 (pre.length + af)), (14, i64 (q : Nat)), (13, a13), (12, a12), (11, a11), (10, i64 (s : Nat)), (4, i64 (af : Nat)), (3, a3), (2, i64 st), (1, ChP x), (0, .ptr 1 0 0 0)] t.1) ∧ LnI σ0 id (pre ++ List.replicate af []) t := by
  obtain ⟨s1, k1, h1'⟩ := loop_known (F := Q3 n0 x st af pre.length s q id a13 a12 a11 a3) (n := af) (I := fun k t => LnI σ0 id (pre ++ List.replicate k []) t) (fun k t hk hi => rq_ei_3 n0 x st af s q hm pre hpre id a13 a12 a11 a3 k t hk hi) (s := t0) (by simpa using h0)
  refine ⟨s1, fun ks => ?_, h1'⟩
  have e := congrFun k1 ks
  unfold Q3 at e
  have e2 : rE fns fa_spec_l03Part n0 (.code lo_spec_l03Part_3 :: .inBlock 10 :: ks) [(21, i64 (af : Nat)), (18, .own id s1.2 0 (pre.length + af)), (14, i64 (q : Nat)), (13, a13), (12, a12), (11, a11), (10, i64 (s : Nat)), (4, i64 (af : Nat)), (3, a3), (2, i64 st), (1, ChP x), (0, .ptr 1 0 0 0)] s1.1 =
      rE fns fa_spec_l03Part n0 ks [(18, .own id s1.2 0 (pre.length + af)), (14, i64 (q : Nat)), (13, a13), (12, a12), (11, a11), (10, i64 (s : Nat)), (4, i64 (af : Nat)), (3, a3), (2, i64 st), (1, ChP x), (0, .ptr 1 0 0 0)] s1.1 := by
    rw [l_spec_l03Part_3]
    simp [lb_spec_l03Part_3]
  rw [e2] at e
  exact e
/-! ### The list for the marks -/
def spL (R : List (List Int)) (X mk af : Nat) (st : Int) : List (List Int) :=
  List.replicate mk [] ++ ((List.range X).map fun j => raiL (R.getD j []) st) ++ List.replicate af [] ++ [raiL (R.getD X []) st]
theorem eiLst_get (R : List (List Int)) (X mk af : Nat) (st : Int) : ∀ k, k ≤ X → ∀ i, (eiLst R X (mk + X + af) mk st k)[i]? = if i ≤ mk + X + af then some (if mk ≤ i ∧ i < mk + k then raiL (R.getD (i - mk) []) st else []) else none
  | 0, _, i => by
    simp only [eiLst, List.getElem?_replicate]
    by_cases c : i ≤ mk + X + af
    · rw [if_pos (by omega), if_pos c, if_neg (by omega)]
    · rw [if_neg (by omega), if_neg c]
  | k + 1, hk, i => by
    have ih := eiLst_get R X mk af st k (by omega) i
    simp only [eiLst]
    have ea : eiAt X (mk + X + af) mk k = k + mk := by unfold eiAt; rw [if_neg (by omega)]
    rw [ea, List.getElem?_set, eiLst_len]
    by_cases c : k + mk = i
    · rw [if_pos c, if_pos (by omega), if_pos (by omega), if_pos (by omega), show i - mk = k by omega]
    · rw [if_neg c, ih]
      by_cases d : i ≤ mk + X + af
      · rw [if_pos d, if_pos d]
        by_cases e : mk ≤ i ∧ i < mk + k
        · rw [if_pos e, if_pos (by omega)]
        · rw [if_neg e, if_neg (by omega)]
      · rw [if_neg d, if_neg d]
theorem spL_eq (R : List (List Int)) (X mk af : Nat) (st : Int) : spL R X mk af st = eiLst R X (mk + X + af) mk st (X + 1) := by
  refine List.ext_getElem? fun i => ?_
  have ih := eiLst_get R X mk af st X (Nat.le_refl _) i
  have ea : eiAt X (mk + X + af) mk X = mk + X + af := by unfold eiAt; rw [if_pos rfl]
  simp only [eiLst, ea, List.getElem?_set, eiLst_len, spL, List.getElem?_append, List.length_append, List.length_replicate, List.length_map, List.length_range, List.getElem?_replicate]
  by_cases c : mk + X + af = i
  · subst c; simp
  · rw [if_neg c, ih]
    by_cases c1 : i < mk
    · rw [if_pos (by omega), if_pos (by omega), if_pos c1, if_pos c1, if_pos (by omega), if_neg (by omega)]
    · by_cases c2 : i < mk + X
      · rw [if_pos (by omega), if_pos c2, if_neg c1, if_pos (by omega), if_pos (by omega)]
        simp [List.getElem?_range (show i - mk < X by omega)]
      · by_cases c3 : i < mk + X + af
        · rw [if_pos c3, if_neg c2, if_pos (by omega), if_pos (by omega), if_neg (by omega)]
        · rw [if_neg c3, if_neg (by omega), List.getElem?_eq_none (by simp; omega)]
end Go.Proofs.Ytlolldjkahkbfaa

set_option linter.unusedVariables false
set_option linter.unusedSimpArgs false
set_option maxRecDepth 100000
namespace Go.Proofs.Ytlolldjkahkbfaa
open Aw
noncomputable def Q4 (n0 : Nat) (x : GChoices) (st : Int) (mk af : Nat) (s m0 : Nat) (k : Nat) (t : T3) (ks : List KI) : Option (PV × List AObj) :=
  rE fns fa_spec_l03Part n0 (.code lo_spec_l03Part_4 :: .inBlock 2 :: ks) [(14, i64 (k : Nat)), (13, .own (m0 + 2) t.2.2.2 0 k), (12, .own (m0 + 1) t.2.2.1 0 k), (11, .own m0 t.2.1 0 k), (10, i64 (s : Nat)), (4, i64 (af : Nat)), (3, i64 (mk : Nat)), (2, i64 st), (1, ChP x), (0, .ptr 1 0 0 0)] t.1
set_option maxHeartbeats 32000000 in
theorem rq_ei_4 (n0 : Nat) {x : GChoices} {X : Nat} (hx : EiX x X) (mk af : Nat) (hb : mk + X + af ≤ 1000) (st : Int) (h1 : 0 ≤ st ∧ st ≤ 1000) (s : Nat) (hs : s < x.call.length) (hsr : s < x.ret.length) (hsi : s < x.inner.length) {σ0 : List AObj} {S : Int} {j1 y1 z1 j2 y2 z2 j3 y3 z3 j4 y4 z4 j5 y5 z5 : Nat} (hc : σ0[1]? = some (.row 6 [.agg [i64 S, .own j1 y1 0 z1, .own j2 y2 0 z2, .own j3 y3 0 z3, .own j4 y4 0 z4, .own j5 y5 0 z5]] 0)) (hl0 : 2 ≤ σ0.length) (hn0 : n0 ≤ σ0.length) (k : Nat) (t : T3) (hk : k < 2) (hi0 : KdI σ0 (eiC x st mk s) (eiB x X (mk + X + af) mk st s) (eiI x st s) k t) :
    ∃ t' : T3, Q4 n0 x st mk af s σ0.length k t = Q4 n0 x st mk af s σ0.length (k + 1) t' ∧ KdI σ0 (eiC x st mk s) (eiB x X (mk + X + af) mk st s) (eiI x st s) (k + 1) t' := by
  obtain ⟨σ, v1, v2, v3⟩ := t
  obtain ⟨⟨e1, d1, e2, d2, e3, d3, hp, hq, hw, i1, i2, i3, i12, i13, i23⟩, he, hg, hn, hv⟩ := hi0
  simp only at hp hq hw he hg hn hv
  have hlen := he.len
  obtain ⟨xc, xc2⟩ := hx.c s hs
  obtain ⟨xr, xr2⟩ := hx.r s hsr
  obtain ⟨xi, xi2⟩ := hx.i s hsi
  have kc : k < x.call[s].length := by omega
  have kr : k < x.ret[s].length := by omega
  have ki : k < x.inner[s].length := by omega
  obtain ⟨c1, c2⟩ := xc2 _ (List.getElem_mem kc)
  obtain ⟨r1, r2⟩ := xr2 _ (List.getElem_mem kr)
  obtain ⟨n1, n2⟩ := xi2 _ (List.getElem_mem ki)
  have kX : X < x.ret[s][k].length := by omega
  obtain ⟨m1, m2⟩ := r2 _ (List.getElem_mem kX)
  have gc : (x.call.getD s []).getD k [] = x.call[s][k] := by simp [List.getD_eq_getElem?_getD, hs, kc]
  have gr : (x.ret.getD s []).getD k [] = x.ret[s][k] := by simp [List.getD_eq_getElem?_getD, hsr, kr]
  have gi : (x.inner.getD s []).getD k [] = x.inner[s][k] := by simp [List.getD_eq_getElem?_getD, hsi, ki]
  have gX : x.ret[s][k].getD X [] = x.ret[s][k][X] := getD_at' kX
  have eC : eiC x st mk s k = (List.range x.call[s][k].length).map (eiP x.call[s][k] st mk) := by unfold eiC; rw [gc]
  have eB : eiB x X (mk + X + af) mk st s k = (List.replicate mk [] ++ ((List.range X).map fun j => raiL (x.ret[s][k].getD j []) st) ++ List.replicate af []) ++ [raiL x.ret[s][k][X] st] := by
    unfold eiB; rw [gr, ← spL_eq, spL, gX]
  have eI : eiI x st s k = raiL x.inner[s][k] st := by unfold eiI; rw [gi]
  -- the pushes
  obtain ⟨t1, k1, f1⟩ := lq_ei_0 n0 x st mk s k hs kc c2 c1 h1 (by omega) hg hn (.own (σ0.length + 2) v3 0 k) (.own (σ0.length + 1) v2 0 k) (.own σ0.length v1 0 k) (i64 (af : Nat))
  obtain ⟨τ1, vp⟩ := t1
  have op := f1.l.own (by simp; omega)
  have f1e := f1.e
  have f1g := f1.g
  have f1n := f1.n
  simp only [List.length_map, List.length_range] at op f1e f1g f1n
  have hl1 : σ.length < τ1.length := f1.l.lt σ.length (by simp)
  have tc0 := he.get hc
  have tcp := (Ext.snoc σ (.row 2 [] 0)).get tc0
  have tc1 := f1e.get tc0
  have p1 := hp.ext f1e
  have at1 := p1.at
  have l1 : ∀ i ∈ d1, i < σ.length := hp.lt
  have l2 : ∀ i ∈ d2, i < σ.length := hq.lt
  have l3 : ∀ i ∈ d3, i < σ.length := hw.lt
  have s3l : σ0.length + 2 < σ.length := l3 _ hw.mem
  have s0l : σ0.length < σ.length := l1 _ hp.mem
  have p2 := p1.push op (fun i hi hj => by simp at hj; have := l1 i hi; omega)
  have K1 := Keep.set τ1 σ0.length (.row 1 (e1 ++ [.own σ.length vp 0 x.call[s][k].length]) (v1 + 1))
  have g1 : Good (τ1.set σ0.length (.row 1 (e1 ++ [.own σ.length vp 0 x.call[s][k].length]) (v1 + 1))) :=
    Good.set f1g _ _ _ (by rw [bels_append, Bool.and_eq_true]; exact ⟨Good.at f1g at1, by simp only [PV.bels, Bool.and_true]; exact op.bel⟩)
  have o1 : Nl [] (τ1.set σ0.length (.row 1 (e1 ++ [.own σ.length vp 0 x.call[s][k].length]) (v1 + 1))) :=
    f1n.set _ (row_nl (nls_append (f1n.at (by simp) at1) (by simp [PV.nls, PV.nl])))
  have q1 := (hq.ext f1e).keep K1 (fun i hi hj => by simp at hj; have := i2 i hi; omega)
  have w1 := (hw.ext f1e).keep K1 (fun i hi hj => by simp at hj; have := i3 i hi; omega)
  have tcA := K1.get (fun hh => by have := List.mem_singleton.1 hh; omega) tc1
  have eA : Ext σ0 (τ1.set σ0.length (.row 1 (e1 ++ [.own σ.length vp 0 x.call[s][k].length]) (v1 + 1))) := (he.trans f1e).set (by omega) _
  generalize hσ1 : τ1.set σ0.length (.row 1 (e1 ++ [.own σ.length vp 0 x.call[s][k].length]) (v1 + 1)) = σ1 at *
  have hs1 : σ1.length = τ1.length := K1.1
  -- the row
  have tcq := (Ext.snoc σ1 (.row 1 [] 0)).get tcA
  obtain ⟨u1, k2, f2⟩ := lq_ei_1 n0 x st mk s k (by omega) g1 o1 (.own (σ0.length + 2) v3 0 k) (.own (σ0.length + 1) v2 0 k) (.own σ0.length (v1 + 1) 0 (k + 1)) (i64 (af : Nat))
  have tcr := f2.e.get tcA
  obtain ⟨u2, k3, f3⟩ := lq_ei_2 n0 x X hx.st (by omega) st h1 s k hsr kr r1 r2 (List.replicate mk []) (by simp; omega) f2 (.own (σ0.length + 2) v3 0 k) (.own (σ0.length + 1) v2 0 k) (.own σ0.length (v1 + 1) 0 (k + 1)) (i64 (af : Nat)) (i64 (mk : Nat))
  have tcs := f3.e.get tcA
  obtain ⟨u3, k4, f4⟩ := lq_ei_3 n0 x st af s k (by omega) (List.replicate mk [] ++ (List.range X).map fun j => raiL (x.ret[s][k].getD j []) st) (by simp; omega) f3 (.own (σ0.length + 2) v3 0 k) (.own (σ0.length + 1) v2 0 k) (.own σ0.length (v1 + 1) 0 (k + 1)) (i64 (mk : Nat))
  obtain ⟨τ2, vr⟩ := u3
  have tct := f4.e.get tcA
  have f4v := f4.v
  have f4e := f4.e
  obtain ⟨er, hat, hrl, hpush⟩ := f4.push
  simp only [List.length_append, List.length_map, List.length_range, List.length_replicate] at k2 k3 k4 f4v hrl f4e
  obtain ⟨ho, hgn⟩ := own_rai x.ret[s][k][X] st m1
  have hra := ev_spec_l03Raised x.ret[s][k][X] st m2 h1 m1
  obtain ⟨p', τ3, ids', hbe, o', hfr, g', e', n'⟩ := made_in (σ := τ2) (js := []) ho hgn f4.g f4.n
  have hcall := callN_made (fns := fns) (f := i_spec_l03Raised) (args := [lst 1 x.ret[s][k][X], i64 st]) (σ := τ2) (by simp [PV.bels, PV.bel]) hra
  rw [hbe] at hcall
  obtain ⟨id', rfl⟩ : ∃ id', p' = .own id' x.ret[s][k][X].length 0 x.ret[s][k][X].length := by
    have h0 : p' = (PV.own 0 x.ret[s][k][X].length 0 x.ret[s][k][X].length).sh τ2.length := (congrArg Prod.fst hbe).symm
    exact ⟨_, by rw [h0]; rfl⟩
  have hL := hpush _ e' g' n' _ _ _ o' hfr
  have hat2 := e'.get hat
  rw [← eB] at hL
  obtain ⟨⟨er2, dr, hl, hd⟩, f2e, f2g, f2n, -⟩ := hL
  simp only at hl f2e f2g f2n
  have hls : (eiB x X (mk + X + af) mk st s k).length = mk + X + af + 1 := by rw [eB]; simp; omega
  have oq := hl.own (by rw [hls]; omega)
  rw [hls] at oq
  have e12 := f2e
  generalize hσ2 : τ3.set σ1.length (.row 1 (er ++ [.own id' x.ret[s][k][X].length 0 x.ret[s][k][X].length]) (vr + 1)) = σ2 at *
  have hl2 := f2e.len
  have q2 := q1.ext e12
  have at2 := q2.at
  have w2 := w1.ext e12
  have p3 := p2.ext e12
  have q3 := q2.push oq (fun i hi hj => by have := l2 i hi; have := hd i hj; omega)
  have K2 := Keep.set σ2 (σ0.length + 1) (.row 1 (e2 ++ [.own σ1.length (vr + 1) 0 (mk + X + af + 1)]) (v2 + 1))
  have g2 : Good (σ2.set (σ0.length + 1) (.row 1 (e2 ++ [.own σ1.length (vr + 1) 0 (mk + X + af + 1)]) (v2 + 1))) :=
    Good.set f2g _ _ _ (by rw [bels_append, Bool.and_eq_true]; exact ⟨Good.at f2g at2, by simp only [PV.bels, Bool.and_true]; exact oq.bel⟩)
  have o2 : Nl [] (σ2.set (σ0.length + 1) (.row 1 (e2 ++ [.own σ1.length (vr + 1) 0 (mk + X + af + 1)]) (v2 + 1))) :=
    f2n.set _ (row_nl (nls_append (f2n.at (by simp) at2) (by simp [PV.nls, PV.nl])))
  have p4 := p3.keep K2 (fun i hi hj => by simp at hj; rcases List.mem_append.1 hi with hi | hi; have := i1 i hi; omega; simp at hi; omega)
  have w3 := w2.keep K2 (fun i hi hj => by simp at hj; have := i3 i hi; omega)
  have tcB := K2.get (fun hh => by have := List.mem_singleton.1 hh; omega) (e12.get tcA)
  have eB' : Ext σ0 (σ2.set (σ0.length + 1) (.row 1 (e2 ++ [.own σ1.length (vr + 1) 0 (mk + X + af + 1)]) (v2 + 1))) := (eA.trans e12).set (by omega) _
  generalize hσ3 : σ2.set (σ0.length + 1) (.row 1 (e2 ++ [.own σ1.length (vr + 1) 0 (mk + X + af + 1)]) (v2 + 1)) = σ3 at *
  have hs3 : σ3.length = σ2.length := K2.1
  -- the inner moves
  obtain ⟨ho2, hgn2⟩ := own_rai x.inner[s][k] st n1
  have hra2 := ev_spec_l03Raised x.inner[s][k] st n2 h1 n1
  obtain ⟨p'', τ4, ids2, hbe2, o'2, hfr2, g'2, e'2, n'2⟩ := made_in (σ := σ3) (js := []) ho2 hgn2 g2 o2
  have hcall2 := callN_made (fns := fns) (f := i_spec_l03Raised) (args := [lst 1 x.inner[s][k], i64 st]) (σ := σ3) (by simp [PV.bels, PV.bel]) hra2
  rw [hbe2] at hcall2
  obtain ⟨id2, rfl⟩ : ∃ id2, p'' = .own id2 x.inner[s][k].length 0 x.inner[s][k].length := by
    have h0 : p'' = (PV.own 0 x.inner[s][k].length 0 x.inner[s][k].length).sh σ3.length := (congrArg Prod.fst hbe2).symm
    exact ⟨_, by rw [h0]; rfl⟩
  have w4 := w3.ext e'2
  have at3 := w4.at
  have w5 := w4.push o'2 (fun i hi hj => by have := l3 i hi; have := hfr2 i hj; omega)
  have K3 := Keep.set τ4 (σ0.length + 2) (.row 1 (e3 ++ [.own id2 x.inner[s][k].length 0 x.inner[s][k].length]) (v3 + 1))
  have p5 := (p4.ext e'2).keep K3 (fun i hi hj => by simp at hj; rcases List.mem_append.1 hi with hi | hi; have := i1 i hi; omega; simp at hi; omega)
  have q4 := (q3.ext e'2).keep K3 (fun i hi hj => by simp at hj; rcases List.mem_append.1 hi with hi | hi; have := i2 i hi; omega; have := hd i hi; omega)
  have dl2 : ∀ i ∈ dr, i < σ3.length := fun i hi => by rw [hs3]; exact hl.lt i hi
  refine ⟨(τ4.set (σ0.length + 2) (.row 1 (e3 ++ [.own id2 x.inner[s][k].length 0 x.inner[s][k].length]) (v3 + 1)), v1 + 1, v2 + 1, v3 + 1), ?_, ⟨⟨_, _, _, _, _, _, by rw [map_succ, eC]; exact p5, by rw [map_succ]; exact q4, by rw [map_succ, eI]; exact w5, ?_, ?_, ?_, ?_, ?_, ?_⟩, ?_, ?_, ?_, by simp only; omega⟩⟩
  · have lp := hp.len
    have lq := hq.len
    have lw := hw.len
    simp only [List.length_map, List.length_range] at lp lq lw
    have hm0 : n0 ≤ σ.length := by omega
    have hm1 : n0 ≤ τ1.length := by omega
    have v3' : v1 < 999999 ∧ v2 < 999999 ∧ v3 < 999999 ∧ vr < 999999 := by omega
    have hwk := wrap_i64 (n := k + 1) (by omega)
    have hk2 : (k : Int) < 2 := by omega
    have bb : (k + 1) * 24 ≤ 140737488355328 ∧ (mk + X + af + 1) * 24 ≤ 140737488355328 := by omega
    have hX := hx.st
    clear hpush hl p1 p2 p3 p4 p5 q1 q2 q3 q4 w1 w2 w3 w4 w5 op oq o' o'2 eA eB' g1 g2 o1 o2 f1 f1g f1n f2 f3 f4 f2g f2n n' n'2 g' g'2 hgn hgn2 ho ho2 hbe hbe2 hra hra2 hfr hfr2 tcB f1e f2e f4e e12 e' e'2 K1 K2 K3 i1 i2 i3 i12 i13 i23 l1 l2 l3 dl2 hd eC eB eI gc gr gi gX xc2 xr2 xi2 c2 r2 n2 m2 hls
    funext ks
    unfold Q4
    rw [l_spec_l03Part_4]
    simp [-callN] at k1 tc0 tcp tc1 tcA tcq tcr tcs tct at1 at2 at3 hσ1 hcall hcall2
    simp [-callN, hs1] at k2 k3 k4 hat hat2 hσ2 hσ3
    simp (config := { maxSteps := 2000000 }) [-callN, lb_spec_l03Part_4, hk, hk2, hs, hsr, hsi, kc, kr, ki, kX, hX, k1, k2, k3, k4, tc0, tcp, tc1, tcA, tcq, tcr, tcs, tct, at1, at2, at3, hat, hat2, hσ1, hσ2, hσ3, hcall, hcall2, lp, lq, lw, hrl, v3', hwk, bb, hm0, hm1, hs1, setCells]
    done
  · intro i hi; rcases List.mem_append.1 hi with hi | hi; exact i1 i hi; simp at hi; omega
  · intro i hi; rcases List.mem_append.1 hi with hi | hi; exact i2 i hi; have := hd i hi; omega
  · intro i hi; rcases List.mem_append.1 hi with hi | hi; exact i3 i hi; have := hfr2 i hi; omega
  · intro i hi hj
    rcases List.mem_append.1 hi with hi | hi <;> rcases List.mem_append.1 hj with hj | hj
    · exact i12 i hi hj
    · have := l1 i hi; have := hd i hj; omega
    · simp at hi; have := l2 i hj; omega
    · simp at hi; have := hd i hj; omega
  · intro i hi hj
    rcases List.mem_append.1 hi with hi | hi <;> rcases List.mem_append.1 hj with hj | hj
    · exact i13 i hi hj
    · have := l1 i hi; have := hfr2 i hj; omega
    · simp at hi; have := l3 i hj; omega
    · simp at hi; have := hfr2 i hj; omega
  · intro i hi hj
    rcases List.mem_append.1 hi with hi | hi <;> rcases List.mem_append.1 hj with hj | hj
    · exact i23 i hi hj
    · have := l2 i hi; have := hfr2 i hj; omega
    · have := hd i hi; have := l3 i hj; omega
    · have := dl2 i hi; have := hfr2 i hj; omega
  · exact (eB'.trans e'2).set (by omega) _
  · exact Good.set g'2 _ _ _ (by rw [bels_append, Bool.and_eq_true]; exact ⟨Good.at g'2 at3, by simp only [PV.bels, Bool.and_true]; exact o'2.bel⟩)
  · exact n'2.set _ (row_nl (nls_append (n'2.at (by simp) at3) (by simp [PV.nls, PV.nl])))
end Go.Proofs.Ytlolldjkahkbfaa
