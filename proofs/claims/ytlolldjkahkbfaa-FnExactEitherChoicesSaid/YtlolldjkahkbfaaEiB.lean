/- Both choices: the program's closure, the loop over the kinds. -/
import Derived.Test.YtlolldjkahkbfaaEiR
set_option linter.unusedVariables false
set_option linter.unusedSimpArgs false
set_option maxRecDepth 100000
namespace Go.Proofs.Ytlolldjkahkbfaa
open Aw
theorem FlI.ext {α : Type} [Enc α] [Own α] {σ0 : List AObj} {id : Nat} {f : Nat → α} {k : Nat} {σ τ : List AObj} {v : Nat} (h : FlI σ0 id f k (σ, v)) (e : Ext σ τ) (g : Good τ) (n : Nl [] τ) : FlI σ0 id f k (τ, v) :=
  ⟨h.l.ext e, h.ge, h.e.trans e, g, n, h.v⟩
/-- A push, its state and its mark behind others. -/
def eiP (c : List GPush) (st mk : Int) (k : Nat) : GPush := ⟨(c.getD k ⟨0, 0⟩).to + st, (c.getD k ⟨0, 0⟩).put + mk⟩
theorem nl_pushE (x : GPush) : (Enc.pv x).nl = true := by simp [PV.nl, PV.nls]
noncomputable def E0 (n0 : Nat) (c : List GPush) (x : GChoices) (st mk : Int) (id : Nat) (a42 a36 a35 a11 a10 a9 a8 a7 a3 : PV) (k : Nat) (t : List AObj × Nat) (ks : List KI) : Option (PV × List AObj) :=
  rE fns fa_impl_EitherChoices_1 n0 (.code lo_impl_EitherChoices_1_0 :: .inBlock 4 :: ks) [(55, i64 (k : Nat)), (54, i64 c.length), (53, lst 2 c), (42, a42), (36, a36), (35, a35), (12, .own id t.2 0 k), (11, a11), (10, a10), (9, a9), (8, a8), (7, a7), (4, ChP x), (3, a3), (2, i64 mk), (1, i64 st)] t.1
set_option maxHeartbeats 4000000 in
theorem ro_ei_0 (n0 : Nat) (c : List GPush) (hc : ∀ p ∈ c, 0 ≤ p.to ∧ p.to ≤ 1000 ∧ 0 ≤ p.put ∧ p.put ≤ 1000) (hl : c.length ≤ 1000) (x : GChoices) (st mk : Int) (h1 : 0 ≤ st ∧ st ≤ 1000) (h2 : 0 ≤ mk ∧ mk ≤ 1000) {σ0 : List AObj} (id : Nat) (a42 a36 a35 a11 a10 a9 a8 a7 a3 : PV) (k : Nat) (t : List AObj × Nat) (hk : k < c.length) (hi : FlI σ0 id (eiP c st mk) k t) :
    ∃ t' : List AObj × Nat, E0 n0 c x st mk id a42 a36 a35 a11 a10 a9 a8 a7 a3 k t = E0 n0 c x st mk id a42 a36 a35 a11 a10 a9 a8 a7 a3 (k + 1) t' ∧ FlI σ0 id (eiP c st mk) (k + 1) t' := by
  obtain ⟨σ, v⟩ := t
  have hg : Good (σ ++ [.row 2 [c[k].v] 0]) := Good.snoc hi.g (by simp [PV.bels, PV.bel])
  have hn : Nl [] (σ ++ [.row 2 [c[k].v] 0]) := hi.n.app (by simp [AObj.nl, PV.nls, PV.nl])
  have hi1 := hi.ext (Ext.snoc σ _) hg hn
  refine ⟨_, ?_, hi1.push (nl_pushE _)⟩
  have tl := hi1.l.at
  have hv : v < 999999 := by have := hi.v; simp only at this; omega
  have hp := hc _ (List.getElem_mem hk)
  have eP : eiP c st mk k = ⟨c[k].to + st, c[k].put + mk⟩ := by unfold eiP; simp [List.getD_eq_getElem?_getD, hk]
  rw [eP]
  have w1 := wrap_i64 (n := c[k].to + st) (by omega)
  have w2 := wrap_i64 (n := c[k].put + mk) (by omega)
  have w3 := wrap_i64 (n := k + 1) (by omega)
  have hlt : (k : Int) < c.length := by omega
  have b1 : (k + 1) * 16 ≤ 140737488355328 := by omega
  funext ks
  unfold E0
  rw [l_impl_EitherChoices_1_0]
  simp [-callN] at tl
  simp [-callN, lb_impl_EitherChoices_1_0, hk, hlt, tl, w1, w2, w3, hv, b1, setCells]
  done
theorem lo_ei_0 (n0 : Nat) (c : List GPush) (hc : ∀ p ∈ c, 0 ≤ p.to ∧ p.to ≤ 1000 ∧ 0 ≤ p.put ∧ p.put ≤ 1000) (hl : c.length ≤ 1000) (x : GChoices) (st mk : Int) (h1 : 0 ≤ st ∧ st ≤ 1000) (h2 : 0 ≤ mk ∧ mk ≤ 1000) {σ : List AObj} (g : Good σ) (n : Nl [] σ) (a42 a36 a35 a11 a10 a9 a8 a7 a3 : PV) :
    ∃ t : List AObj × Nat, (∀ ks, rE fns fa_impl_EitherChoices_1 n0 (.code lo_impl_EitherChoices_1_0 :: .inBlock 4 :: ks) [(55, i64 0), (54, i64 c.length), (53, lst 2 c), (42, a42), (36, a36), (35, a35), (12, .own σ.length 0 0 0), (11, a11), (10, a10), (9, a9), (8, a8), (7, a7), (4, ChP x), (3, a3), (2, i64 mk), (1, i64 st)] (σ ++ [.row 2 [] 0]) =
      rE fns fa_impl_EitherChoices_1 n0 ks [(42, a42), (36, a36), (35, a35), (12, .own σ.length t.2 0 c.length), (11, a11), (10, a10), (9, a9), (8, a8), (7, a7), (4, ChP x), (3, a3), (2, i64 mk), (1, i64 st)] t.1) ∧ FlI σ σ.length (eiP c st mk) c.length t := by
  obtain ⟨s1, k1, h1'⟩ := loop_known (F := E0 n0 c x st mk σ.length a42 a36 a35 a11 a10 a9 a8 a7 a3) (n := c.length) (I := FlI σ σ.length (eiP c st mk)) (fun k t hk hi => ro_ei_0 n0 c hc hl x st mk h1 h2 σ.length a42 a36 a35 a11 a10 a9 a8 a7 a3 k t hk hi) (FlI.start (eiP c st mk) g n)
  refine ⟨s1, fun ks => ?_, h1'⟩
  have e := congrFun k1 ks
  unfold E0 at e
  have e2 : rE fns fa_impl_EitherChoices_1 n0 (.code lo_impl_EitherChoices_1_0 :: .inBlock 4 :: ks) [(55, i64 (c.length : Nat)), (54, i64 c.length), (53, lst 2 c), (42, a42), (36, a36), (35, a35), (12, .own σ.length s1.2 0 c.length), (11, a11), (10, a10), (9, a9), (8, a8), (7, a7), (4, ChP x), (3, a3), (2, i64 mk), (1, i64 st)] s1.1 =
      rE fns fa_impl_EitherChoices_1 n0 ks [(42, a42), (36, a36), (35, a35), (12, .own σ.length s1.2 0 c.length), (11, a11), (10, a10), (9, a9), (8, a8), (7, a7), (4, ChP x), (3, a3), (2, i64 mk), (1, i64 st)] s1.1 := by
    rw [l_impl_EitherChoices_1_0]
    simp [lb_impl_EitherChoices_1_0]
  rw [e2] at e
  exact e
theorem OwnEs.elt {σ : List AObj} : ∀ {is : List (List Nat)} {es : List PV} {xs : List (List Int)} {j : Nat} (hj : j < es.length), OwnEs σ is es xs → es[j] = .val (.slice none 0 0) ∨ ∃ i v n, es[j] = .own i v 0 n
  | i :: is, e :: es, y :: xs, 0, _, h => by
    rcases h.1 with ⟨_, _, h⟩ | ⟨id, v, _, _, h, _⟩
    · exact .inl h
    · exact .inr ⟨id, v, _, h⟩
  | i :: is, e :: es, y :: xs, j + 1, hj, h => by
    have := OwnEs.elt (j := j) (by simpa using hj) h.2
    simpa using this
  | [], [], _, _, hj, _ => by simp at hj
  | [], _ :: _, [], _, _, h => h.elim
  | [], _ :: _, _ :: _, _, _, h => h.elim
  | _ :: _, [], _, _, hj, _ => by simp at hj
  | _ :: _, _ :: _, [], _, _, h => h.elim
/-- Where the list for a mark goes. -/
def eiAt (X S mk j : Nat) : Nat := if j = X then S else j + mk
def eiLst (R : List (List Int)) (X S mk : Nat) (st : Int) : Nat → List (List Int)
  | 0 => List.replicate (S + 1) []
  | k + 1 => (eiLst R X S mk st k).set (eiAt X S mk k) (raiL (R.getD k []) st)
theorem eiLst_len (R : List (List Int)) (X S mk : Nat) (st : Int) : ∀ k, (eiLst R X S mk st k).length = S + 1
  | 0 => by simp [eiLst]
  | k + 1 => by simp [eiLst, eiLst_len R X S mk st k]
/-- A list of lists whose elements are put in place, behind a state. -/
structure LsI (σ0 : List AObj) (id : Nat) (xs : List (List Int)) (σ : List AObj) : Prop where
  l : ∃ es ids, Lst σ id 0 es ids xs ∧ ∀ i ∈ ids, i = id ∨ σ0.length < i
  ge : id = σ0.length
  e : Ext σ0 σ
  g : Good σ
  n : Nl [] σ
noncomputable def E1 (n0 : Nat) (R : List (List Int)) (x : GChoices) (st : Int) (mk S : Nat) (id : Nat) (a42 a36 a35 a12 a11 a10 a9 a8 a7 : PV) (k : Nat) (t : List AObj) (ks : List KI) : Option (PV × List AObj) :=
  rE fns fa_impl_EitherChoices_1 n0 (.code lo_impl_EitherChoices_1_1 :: .inBlock 6 :: ks) [(85, i64 (k : Nat)), (84, i64 R.length), (83, lst 1 R), (42, a42), (36, a36), (35, a35), (15, .own id 0 0 (S + 1)), (12, a12), (11, a11), (10, a10), (9, a9), (8, a8), (7, a7), (4, ChP x), (3, .ptr 1 0 0 0), (2, i64 (mk : Nat)), (1, i64 st)] t
set_option maxHeartbeats 8000000 in
theorem ro_ei_1 (n0 : Nat) (R : List (List Int)) (hR : ∀ l ∈ R, l.length ≤ 1000 ∧ ∀ y ∈ l, 0 ≤ y ∧ y ≤ 1000) (x : GChoices) (X S mk : Nat) (hX : x.stack = (X : Int)) (hRl : R.length = X + 1) (hS : X + mk ≤ S) (hSb : S ≤ 1000) (st : Int) (h1 : 0 ≤ st ∧ st ≤ 1000) {σ0 : List AObj} {rest : List PV} (hc : σ0[1]? = some (.row 6 [.agg (i64 (S : Nat) :: rest)] 0)) (id : Nat) (a42 a36 a35 a12 a11 a10 a9 a8 a7 : PV) (k : Nat) (t : List AObj) (hk : k < R.length) (hi : LsI σ0 id (eiLst R X S mk st k) t) :
    ∃ t' : List AObj, E1 n0 R x st mk S id a42 a36 a35 a12 a11 a10 a9 a8 a7 k t = E1 n0 R x st mk S id a42 a36 a35 a12 a11 a10 a9 a8 a7 (k + 1) t' ∧ LsI σ0 id (eiLst R X S mk st (k + 1)) t' := by
  obtain ⟨⟨es, ids, hl, hd⟩, hge, he, hg, hn⟩ := hi
  have hRk := hR _ (List.getElem_mem hk)
  have hra := ev_impl_raised R[k] st (fun y hy => hRk.2 y hy) h1 hRk.1
  have hrl : (raiL R[k] st).length = R[k].length := by simp [raiL]
  have ho : OwnIn [AObj.row 1 ((raiL R[k] st).map Enc.pv) R[k].length] [0] (.own 0 R[k].length 0 R[k].length) (raiL R[k] st) :=
    ⟨.inr ⟨0, R[k].length, (raiL R[k] st).map Enc.pv, List.replicate (raiL R[k] st).length [], by rw [hrl], rfl, by rw [hrl]; omega, by simp, by
      have : ∀ l : List Int, OwnEs [AObj.row 1 ((raiL R[k] st).map Enc.pv) R[k].length] (List.replicate l.length []) (l.map Enc.pv) l := by
        intro l
        induction l with
        | nil => trivial
        | cons y l ih => exact ⟨⟨rfl, rfl⟩, ih⟩
      exact this _⟩, by simp, by simp⟩
  have hgn : GoodN [AObj.row 1 ((raiL R[k] st).map Enc.pv) R[k].length] := by
    refine ⟨by simp only [Good, List.length_singleton, objsBel, Bool.and_true]; exact bels_map _ _, ?_⟩
    simp only [List.all_cons, List.all_nil, Bool.and_true, AObj.nl, PV.nls_iff]
    intro p hp
    obtain ⟨y, _, rfl⟩ := List.mem_map.1 hp
    simp [PV.nl]
  obtain ⟨p', τ, ids', hbe, o', hfr, g', e', n'⟩ := made_in (σ := t) (js := []) ho hgn hg hn
  have hcall := callN_made (fns := fns) (f := i_impl_raised) (args := [lst 1 R[k], i64 st]) (σ := t) (by simp [PV.bels, PV.bel]) hra
  rw [hbe] at hcall
  have hl1 := hl.ext e'
  have tc := e'.get (he.get hc)
  have tc0 := he.get hc
  have hlen := he.len
  have hat : eiAt X S mk k < (eiLst R X S mk st k).length := by
    rw [eiLst_len]; unfold eiAt; split <;> omega
  obtain ⟨ids2, hl2, hd2⟩ := hl1.setAt o' (fun i hi hm => by have := hfr i hi; have := hl.lt i hm; omega) hat
  have hEl : ∀ j (hj : j < es.length), es[j] = .val (.slice none 0 0) ∨ ∃ i v n, es[j] = .own i v 0 n := fun j hj => by
    obtain ⟨-, -, ⟨is, -, h3⟩, -, -⟩ := hl1
    exact OwnEs.elt hj h3
  have hp' : ∃ id', p' = .own id' R[k].length 0 R[k].length := by
    have h0 : p' = (PV.own 0 R[k].length 0 R[k].length).sh t.length := (congrArg Prod.fst hbe).symm
    exact ⟨_, by rw [h0]; rfl⟩
  have onl := Own.nl o'.own
  have ob := o'.bel
  have ha1 := hl1.at
  have hes := hl.len
  rw [eiLst_len] at hes
  refine ⟨τ.set id (.row 1 (es.set (eiAt X S mk k) p') 0), ?_, ⟨⟨es.set (eiAt X S mk k) p', ids2, ?_, fun i hi => ?_⟩, hge, (he.trans e').set (by omega) _, ?_, ?_⟩⟩
  · obtain ⟨id', rfl⟩ := hp'
    have w1 := wrap_i64 (n := (k : Int) + mk) (by omega)
    have w2 := wrap_i64 (n := (k : Int) + 1) (by omega)
    have hlt : (k : Int) < R.length := by omega
    funext ks
    unfold E1
    rw [l_impl_EitherChoices_1_1]
    rw [eiLst_len] at hat
    by_cases c : k = X
    · have c' : (k : Int) = x.stack := by omega
      have ea : eiAt X S mk k = S := by unfold eiAt; rw [if_pos c]
      rw [ea]
      simp [-callN] at hcall tc tc0 ha1
      rcases hEl S (by omega) with hE | ⟨i1, v1, n1, hE⟩
      · simp (config := { maxSteps := 2000000 }) [-callN, lb_impl_EitherChoices_1_1, hk, hlt, w1, w2, eq_true c', hcall, tc, tc0, ha1, hes, hE, show (S : Int) < (S : Int) + 1 by omega, setCells]
        done
      · simp (config := { maxSteps := 2000000 }) [-callN, lb_impl_EitherChoices_1_1, hk, hlt, w1, w2, eq_true c', hcall, tc, tc0, ha1, hes, hE, show (S : Int) < (S : Int) + 1 by omega, setCells]
        done
    · have c' : ¬ (k : Int) = x.stack := by omega
      have ea : eiAt X S mk k = k + mk := by unfold eiAt; rw [if_neg c]
      rw [ea] at hat ⊢
      have t1 : ((k : Int) + mk).toNat = k + mk := by omega
      have t2 : (0 : Int) ≤ (k : Int) + mk ∧ (k : Int) + mk < (S : Int) + 1 := by omega
      simp [-callN] at hcall tc tc0 ha1
      rcases hEl (k + mk) (by omega) with hE | ⟨i1, v1, n1, hE⟩
      · simp (config := { maxSteps := 2000000 }) [-callN, lb_impl_EitherChoices_1_1, hk, hlt, w1, w2, c', hcall, tc, tc0, ha1, hes, t1, t2, hat, hE, setCells]
        done
      · simp (config := { maxSteps := 2000000 }) [-callN, lb_impl_EitherChoices_1_1, hk, hlt, w1, w2, c', hcall, tc, tc0, ha1, hes, t1, t2, hat, hE, setCells]
        done
  · have eK : eiLst R X S mk st (k + 1) = (eiLst R X S mk st k).set (eiAt X S mk k) (raiL R[k] st) := by
      show (eiLst R X S mk st k).set (eiAt X S mk k) (raiL (R.getD k []) st) = _
      simp [List.getD_eq_getElem?_getD, hk]
    rw [eK]; exact hl2
  · rcases hd2 i hi with hi | hi
    · exact hd i hi
    · have := hfr i hi; exact .inr (by have := hl.lt id hl.mem; omega)
  · refine Good.set g' _ _ _ ?_
    have h0 := Good.at g' ha1
    rw [PV.bels_iff] at h0 ⊢
    intro q hq
    rcases List.mem_or_eq_of_mem_set hq with hq | rfl
    · exact h0 q hq
    · exact ob
  · refine n'.set _ (row_nl ?_)
    have h0 := n'.at (by simp) ha1
    rw [PV.nls_iff] at h0 ⊢
    intro q hq
    rcases List.mem_or_eq_of_mem_set hq with hq | rfl
    · exact h0 q hq
    · exact onl
end Go.Proofs.Ytlolldjkahkbfaa

set_option linter.unusedVariables false
set_option linter.unusedSimpArgs false
set_option maxRecDepth 100000
namespace Go.Proofs.Ytlolldjkahkbfaa
open Aw
theorem LsI.start {σ : List AObj} (S : Nat) (g : Good σ) (n : Nl [] σ) : LsI σ σ.length (List.replicate (S + 1) []) (σ ++ [.row 1 (List.replicate (S + 1) (.val (.slice none 0 0))) 0]) := by
  refine ⟨⟨_, _, Lst.nils σ (S + 1), fun i hi => by simp at hi; exact .inl hi⟩, rfl, Ext.snoc _ _, Good.snoc g ?_, n.app ?_⟩
  · rw [PV.bels_iff]; intro p hp; rw [(List.mem_replicate.1 hp).2]; rfl
  · simp only [List.all_cons, List.all_nil, Bool.and_true, AObj.nl, PV.nls_iff]; intro p hp; rw [(List.mem_replicate.1 hp).2]; simp [PV.nl]
theorem lo_ei_1 (n0 : Nat) (R : List (List Int)) (hR : ∀ l ∈ R, l.length ≤ 1000 ∧ ∀ y ∈ l, 0 ≤ y ∧ y ≤ 1000) (x : GChoices) (X S mk : Nat) (hX : x.stack = (X : Int)) (hRl : R.length = X + 1) (hS : X + mk ≤ S) (hSb : S ≤ 1000) (st : Int) (h1 : 0 ≤ st ∧ st ≤ 1000) {σ : List AObj} {rest : List PV} (hc : σ[1]? = some (.row 6 [.agg (i64 (S : Nat) :: rest)] 0)) (g : Good σ) (n : Nl [] σ) (a42 a36 a35 a12 a11 a10 a9 a8 a7 : PV) :
    ∃ t : List AObj, (∀ ks, rE fns fa_impl_EitherChoices_1 n0 (.code lo_impl_EitherChoices_1_1 :: .inBlock 6 :: ks) [(85, i64 0), (84, i64 R.length), (83, lst 1 R), (42, a42), (36, a36), (35, a35), (15, .own σ.length 0 0 (S + 1)), (12, a12), (11, a11), (10, a10), (9, a9), (8, a8), (7, a7), (4, ChP x), (3, .ptr 1 0 0 0), (2, i64 (mk : Nat)), (1, i64 st)] (σ ++ [.row 1 (List.replicate (S + 1) (.val (.slice none 0 0))) 0]) =
      rE fns fa_impl_EitherChoices_1 n0 ks [(42, a42), (36, a36), (35, a35), (15, .own σ.length 0 0 (S + 1)), (12, a12), (11, a11), (10, a10), (9, a9), (8, a8), (7, a7), (4, ChP x), (3, .ptr 1 0 0 0), (2, i64 (mk : Nat)), (1, i64 st)] t) ∧ LsI σ σ.length (eiLst R X S mk st R.length) t := by
  obtain ⟨s1, k1, h1'⟩ := loop_known (F := E1 n0 R x st mk S σ.length a42 a36 a35 a12 a11 a10 a9 a8 a7) (n := R.length) (I := fun k t => LsI σ σ.length (eiLst R X S mk st k) t) (fun k t hk hi => ro_ei_1 n0 R hR x X S mk hX hRl hS hSb st h1 hc σ.length a42 a36 a35 a12 a11 a10 a9 a8 a7 k t hk hi) (LsI.start S g n)
  refine ⟨s1, fun ks => ?_, h1'⟩
  have e := congrFun k1 ks
  unfold E1 at e
  have e2 : rE fns fa_impl_EitherChoices_1 n0 (.code lo_impl_EitherChoices_1_1 :: .inBlock 6 :: ks) [(85, i64 (R.length : Nat)), (84, i64 R.length), (83, lst 1 R), (42, a42), (36, a36), (35, a35), (15, .own σ.length 0 0 (S + 1)), (12, a12), (11, a11), (10, a10), (9, a9), (8, a8), (7, a7), (4, ChP x), (3, .ptr 1 0 0 0), (2, i64 (mk : Nat)), (1, i64 st)] s1 =
      rE fns fa_impl_EitherChoices_1 n0 ks [(42, a42), (36, a36), (35, a35), (15, .own σ.length 0 0 (S + 1)), (12, a12), (11, a11), (10, a10), (9, a9), (8, a8), (7, a7), (4, ChP x), (3, .ptr 1 0 0 0), (2, i64 (mk : Nat)), (1, i64 st)] s1 := by
    rw [l_impl_EitherChoices_1_1]
    simp [lb_impl_EitherChoices_1_1]
  rw [e2] at e
  exact e
abbrev T3 := List AObj × Nat × Nat × Nat
/-- The three lists of one state of both choices, behind a state: the calls, the returns, the inner moves. -/
structure KdI (σ0 : List AObj) (C : Nat → List GPush) (B : Nat → List (List Int)) (I : Nat → List Int) (k : Nat) (t : T3) : Prop where
  ex : ∃ e1 d1 e2 d2 e3 d3, Lst t.1 σ0.length t.2.1 e1 d1 ((List.range k).map C) ∧ Lst t.1 (σ0.length + 1) t.2.2.1 e2 d2 ((List.range k).map B) ∧ Lst t.1 (σ0.length + 2) t.2.2.2 e3 d3 ((List.range k).map I) ∧
    (∀ i ∈ d1, i = σ0.length ∨ σ0.length + 3 ≤ i) ∧ (∀ i ∈ d2, i = σ0.length + 1 ∨ σ0.length + 3 ≤ i) ∧ (∀ i ∈ d3, i = σ0.length + 2 ∨ σ0.length + 3 ≤ i) ∧ (∀ i ∈ d1, i ∉ d2) ∧ (∀ i ∈ d1, i ∉ d3) ∧ (∀ i ∈ d2, i ∉ d3)
  e : Ext σ0 t.1
  g : Good t.1
  n : Nl [] t.1
  v : t.2.1 ≤ k ∧ t.2.2.1 ≤ k ∧ t.2.2.2 ≤ k
/-- What is known of one of both: its numbers are small. -/
structure EiX (x : GChoices) (X : Nat) : Prop where
  st : x.stack = (X : Int)
  c : ∀ s (h : s < x.call.length), x.call[s].length = 2 ∧ ∀ l ∈ x.call[s], l.length ≤ 1000 ∧ ∀ p ∈ l, 0 ≤ p.to ∧ p.to ≤ 1000 ∧ 0 ≤ p.put ∧ p.put ≤ 1000
  r : ∀ s (h : s < x.ret.length), x.ret[s].length = 2 ∧ ∀ R ∈ x.ret[s], R.length = X + 1 ∧ ∀ l ∈ R, l.length ≤ 1000 ∧ ∀ y ∈ l, 0 ≤ y ∧ y ≤ 1000
  i : ∀ s (h : s < x.inner.length), x.inner[s].length = 2 ∧ ∀ l ∈ x.inner[s], l.length ≤ 1000 ∧ ∀ y ∈ l, 0 ≤ y ∧ y ≤ 1000
def eiC (x : GChoices) (st mk : Int) (s k : Nat) : List GPush := (List.range ((x.call.getD s []).getD k []).length).map (eiP ((x.call.getD s []).getD k []) st mk)
def eiB (x : GChoices) (X S mk : Nat) (st : Int) (s k : Nat) : List (List Int) := eiLst ((x.ret.getD s []).getD k []) X S mk st (X + 1)
def eiI (x : GChoices) (st : Int) (s k : Nat) : List Int := raiL ((x.inner.getD s []).getD k []) st
noncomputable def E2 (n0 : Nat) (x : GChoices) (st : Int) (mk : Nat) (s m0 : Nat) (a36 a35 : PV) (k : Nat) (t : T3) (ks : List KI) : Option (PV × List AObj) :=
  rE fns fa_impl_EitherChoices_1 n0 (.code lo_impl_EitherChoices_1_2 :: .inBlock 2 :: ks) [(42, i64 (k : Nat)), (36, a36), (35, a35), (10, .own (m0 + 2) t.2.2.2 0 k), (9, .own (m0 + 1) t.2.2.1 0 k), (8, .own m0 t.2.1 0 k), (7, i64 (s : Nat)), (4, ChP x), (3, .ptr 1 0 0 0), (2, i64 (mk : Nat)), (1, i64 st)] t.1
theorem own_rai (l : List Int) (b : Int) (hl : l.length ≤ 1000) : OwnIn [AObj.row 1 ((raiL l b).map Enc.pv) l.length] [0] (.own 0 l.length 0 l.length) (raiL l b) ∧ GoodN [AObj.row 1 ((raiL l b).map Enc.pv) l.length] := by
  have hrl : (raiL l b).length = l.length := by simp [raiL]
  refine ⟨⟨.inr ⟨0, l.length, (raiL l b).map Enc.pv, List.replicate (raiL l b).length [], by rw [hrl], rfl, by rw [hrl]; omega, by simp, ?_⟩, by simp, by simp⟩, ?_, ?_⟩
  · have : ∀ l' : List Int, OwnEs [AObj.row 1 ((raiL l b).map Enc.pv) l.length] (List.replicate l'.length []) (l'.map Enc.pv) l' := by
      intro l'
      induction l' with
      | nil => trivial
      | cons y l' ih => exact ⟨⟨rfl, rfl⟩, ih⟩
    exact this _
  · simp only [Good, List.length_singleton, objsBel, Bool.and_true]; exact bels_map _ _
  · simp only [List.all_cons, List.all_nil, Bool.and_true, AObj.nl, PV.nls_iff]
    intro p hp
    obtain ⟨y, _, rfl⟩ := List.mem_map.1 hp
    simp [PV.nl]
set_option maxHeartbeats 32000000 in
theorem ro_ei_2 (n0 : Nat) {x : GChoices} {X : Nat} (hx : EiX x X) (S mk : Nat) (hS : X + mk ≤ S) (hSb : S ≤ 1000) (st : Int) (h1 : 0 ≤ st ∧ st ≤ 1000) (s : Nat) (hs : s < x.call.length) (hsr : s < x.ret.length) (hsi : s < x.inner.length) {σ0 : List AObj} {j1 y1 z1 j2 y2 z2 j3 y3 z3 j4 y4 z4 j5 y5 z5 : Nat} (hc : σ0[1]? = some (.row 6 [.agg [i64 (S : Nat), .own j1 y1 0 z1, .own j2 y2 0 z2, .own j3 y3 0 z3, .own j4 y4 0 z4, .own j5 y5 0 z5]] 0)) (hl0 : 2 ≤ σ0.length) (hn0 : n0 ≤ σ0.length) (a36 a35 : PV) (k : Nat) (t : T3) (hk : k < 2) (hi0 : KdI σ0 (eiC x st mk s) (eiB x X S mk st s) (eiI x st s) k t) :
    ∃ t' : T3, E2 n0 x st mk s σ0.length a36 a35 k t = E2 n0 x st mk s σ0.length a36 a35 (k + 1) t' ∧ KdI σ0 (eiC x st mk s) (eiB x X S mk st s) (eiI x st s) (k + 1) t' := by
  obtain ⟨σ, v1, v2, v3⟩ := t
  obtain ⟨⟨e1, d1, e2, d2, e3, d3, hp, hq, hw, i1, i2, i3, i12, i13, i23⟩, he, hg, hn, hv⟩ := hi0
  simp only at hp hq hw he hg hn hv
  have hlen := he.len
  obtain ⟨xc, xc2⟩ := hx.c s hs
  obtain ⟨xr, xr2⟩ := hx.r s hsr
  obtain ⟨xi, xi2⟩ := hx.i s hsi
  have kc : k < x.call[s].length := by omega
  have kr : k < x.ret[s].length := by omega
  have ki : k < x.inner[s].length := by omega
  obtain ⟨c1, c2⟩ := xc2 _ (List.getElem_mem kc)
  obtain ⟨r1, r2⟩ := xr2 _ (List.getElem_mem kr)
  obtain ⟨n1, n2⟩ := xi2 _ (List.getElem_mem ki)
  have gc : (x.call.getD s []).getD k [] = x.call[s][k] := by simp [List.getD_eq_getElem?_getD, hs, kc]
  have gr : (x.ret.getD s []).getD k [] = x.ret[s][k] := by simp [List.getD_eq_getElem?_getD, hsr, kr]
  have gi : (x.inner.getD s []).getD k [] = x.inner[s][k] := by simp [List.getD_eq_getElem?_getD, hsi, ki]
  have eC : eiC x st mk s k = (List.range x.call[s][k].length).map (eiP x.call[s][k] st mk) := by unfold eiC; rw [gc]
  have eB : eiB x X S mk st s k = eiLst x.ret[s][k] X S mk st (X + 1) := by unfold eiB; rw [gr]
  have eI : eiI x st s k = raiL x.inner[s][k] st := by unfold eiI; rw [gi]
  -- the pushes
  obtain ⟨t1, k1, f1⟩ := lo_ei_0 n0 x.call[s][k] c2 c1 x st mk h1 (by omega) hg hn (i64 (k : Nat)) a36 a35 (i64 (k : Nat)) (.own (σ0.length + 2) v3 0 k) (.own (σ0.length + 1) v2 0 k) (.own σ0.length v1 0 k) (i64 (s : Nat)) (.ptr 1 0 0 0)
  obtain ⟨τ1, vp⟩ := t1
  have op := f1.l.own (by simp; omega)
  have f1e := f1.e
  have f1g := f1.g
  have f1n := f1.n
  simp only [List.length_map, List.length_range] at op f1e f1g f1n
  have hl1 : σ.length < τ1.length := f1.l.lt σ.length (by simp)
  -- the returns
  have tc1 := f1e.get (he.get hc)
  obtain ⟨τ2, k2, f2⟩ := lo_ei_1 n0 x.ret[s][k] r2 x X S mk hx.st r1 hS hSb st h1 tc1 f1g f1n (i64 (k : Nat)) a36 a35 (.own σ.length vp 0 x.call[s][k].length) (i64 (k : Nat)) (.own (σ0.length + 2) v3 0 k) (.own (σ0.length + 1) v2 0 k) (.own σ0.length v1 0 k) (i64 (s : Nat))
  obtain ⟨⟨es, dl, hl, hd⟩, -, f2e, f2g, f2n⟩ := f2
  rw [r1] at hl
  have oq := hl.own (by rw [eiLst_len]; omega)
  rw [eiLst_len] at oq
  have e12 : Ext σ τ2 := f1e.trans f2e
  have hl2 := f2e.len
  -- the appends
  have p1 := hp.ext e12
  have at1 := p1.at
  have op2 := f2e.own op
  have l1 : ∀ i ∈ d1, i < σ.length := hp.lt
  have l2 : ∀ i ∈ d2, i < σ.length := hq.lt
  have l3 : ∀ i ∈ d3, i < σ.length := hw.lt
  have dlb : ∀ i ∈ dl, τ1.length ≤ i := fun i hi => by rcases hd i hi with h | h <;> omega
  have s3l : σ0.length + 2 < σ.length := l3 _ hw.mem
  have p2 := p1.push op2 (fun i hi hj => by simp at hj; have := l1 i hi; omega)
  have K1 := Keep.set τ2 σ0.length (.row 1 (e1 ++ [.own σ.length vp 0 x.call[s][k].length]) (v1 + 1))
  have g1 : Good (τ2.set σ0.length (.row 1 (e1 ++ [.own σ.length vp 0 x.call[s][k].length]) (v1 + 1))) :=
    Good.set f2g _ _ _ (by rw [bels_append, Bool.and_eq_true]; exact ⟨Good.at f2g at1, by simp only [PV.bels, Bool.and_true]; exact op2.bel⟩)
  have m1 : Nl [] (τ2.set σ0.length (.row 1 (e1 ++ [.own σ.length vp 0 x.call[s][k].length]) (v1 + 1))) :=
    f2n.set _ (row_nl (nls_append (f2n.at (by simp) at1) (by simp [PV.nls, PV.nl])))
  have q1 := (hq.ext e12).keep K1 (fun i hi hj => by simp at hj; have := i2 i hi; omega)
  have w1 := (hw.ext e12).keep K1 (fun i hi hj => by simp at hj; have := i3 i hi; omega)
  have oq1 := K1.own oq (fun i hi hj => by simp at hj; have := dlb i hi; omega)
  have hLσ : ∀ i ∈ d1, i < σ.length := l1
  have s0l : σ0.length < σ.length := l1 _ hp.mem
  have tcA := K1.get (fun hh => by have := List.mem_singleton.1 hh; omega) (f2e.get tc1)
  have eA : Ext σ0 (τ2.set σ0.length (.row 1 (e1 ++ [.own σ.length vp 0 x.call[s][k].length]) (v1 + 1))) := (he.trans e12).set (by omega) _
  generalize hσ1 : τ2.set σ0.length (.row 1 (e1 ++ [.own σ.length vp 0 x.call[s][k].length]) (v1 + 1)) = σ1 at *
  have hs1 : σ1.length = τ2.length := K1.1
  have at2 := q1.at
  have q2 := q1.push oq1 (fun i hi hj => by have := l2 i hi; have := dlb i hj; omega)
  have K2 := Keep.set σ1 (σ0.length + 1) (.row 1 (e2 ++ [.own τ1.length 0 0 (S + 1)]) (v2 + 1))
  have g2 : Good (σ1.set (σ0.length + 1) (.row 1 (e2 ++ [.own τ1.length 0 0 (S + 1)]) (v2 + 1))) :=
    Good.set g1 _ _ _ (by rw [bels_append, Bool.and_eq_true]; exact ⟨Good.at g1 at2, by simp only [PV.bels, Bool.and_true]; exact oq1.bel⟩)
  have m2 : Nl [] (σ1.set (σ0.length + 1) (.row 1 (e2 ++ [.own τ1.length 0 0 (S + 1)]) (v2 + 1))) :=
    m1.set _ (row_nl (nls_append (m1.at (by simp) at2) (by simp [PV.nls, PV.nl])))
  have p3 := p2.keep K2 (fun i hi hj => by simp at hj; rcases List.mem_append.1 hi with hi | hi; have := i1 i hi; omega; simp at hi; omega)
  have w2 := w1.keep K2 (fun i hi hj => by simp at hj; have := i3 i hi; omega)
  have tcB := K2.get (fun hh => by have := List.mem_singleton.1 hh; omega) tcA
  have eB' : Ext σ0 (σ1.set (σ0.length + 1) (.row 1 (e2 ++ [.own τ1.length 0 0 (S + 1)]) (v2 + 1))) := eA.set (by omega) _
  generalize hσ2 : σ1.set (σ0.length + 1) (.row 1 (e2 ++ [.own τ1.length 0 0 (S + 1)]) (v2 + 1)) = σ2 at *
  have hs2 : σ2.length = σ1.length := K2.1
  -- the inner moves
  obtain ⟨ho, hgn⟩ := own_rai x.inner[s][k] st n1
  have hra := ev_impl_raised x.inner[s][k] st n2 h1 n1
  obtain ⟨p', τ3, ids', hbe, o', hfr, g', e', n'⟩ := made_in (σ := σ2) (js := []) ho hgn g2 m2
  have hcall := callN_made (fns := fns) (f := i_impl_raised) (args := [lst 1 x.inner[s][k], i64 st]) (σ := σ2) (by simp [PV.bels, PV.bel]) hra
  rw [hbe] at hcall
  obtain ⟨id', rfl⟩ : ∃ id', p' = .own id' x.inner[s][k].length 0 x.inner[s][k].length := by
    have h0 : p' = (PV.own 0 x.inner[s][k].length 0 x.inner[s][k].length).sh σ2.length := (congrArg Prod.fst hbe).symm
    exact ⟨_, by rw [h0]; rfl⟩
  have w3 := w2.ext e'
  have at3 := w3.at
  have w4 := w3.push o' (fun i hi hj => by have := l3 i hi; have := hfr i hj; omega)
  have K3 := Keep.set τ3 (σ0.length + 2) (.row 1 (e3 ++ [.own id' x.inner[s][k].length 0 x.inner[s][k].length]) (v3 + 1))
  have p4 := (p3.ext e').keep K3 (fun i hi hj => by simp at hj; rcases List.mem_append.1 hi with hi | hi; have := i1 i hi; omega; simp at hi; omega)
  have q3 := (q2.ext e').keep K3 (fun i hi hj => by simp at hj; rcases List.mem_append.1 hi with hi | hi; have := i2 i hi; omega; have := dlb i hi; omega)
  refine ⟨(τ3.set (σ0.length + 2) (.row 1 (e3 ++ [.own id' x.inner[s][k].length 0 x.inner[s][k].length]) (v3 + 1)), v1 + 1, v2 + 1, v3 + 1), ?_, ⟨⟨_, _, _, _, _, _, by rw [map_succ, eC]; exact p4, by rw [map_succ, eB]; exact q3, by rw [map_succ, eI]; exact w4, ?_, ?_, ?_, ?_, ?_, ?_⟩, ?_, ?_, ?_, by simp only; omega⟩⟩
  · have lp := hp.len
    have lq := hq.len
    have lw := hw.len
    simp only [List.length_map, List.length_range] at lp lq lw
    have hm0 : n0 ≤ σ.length := by omega
    have hm1 : n0 ≤ τ1.length := by omega
    have mk1 : (0 : Int) ≤ (S : Int) + 1 ∧ ((S : Int) + 1) * 24 ≤ 281474976710656 ∧ (S : Int) + 1 ≤ 281474976710656 := by omega
    have tcm := (Ext.snoc τ1 (.row 1 (List.replicate (S + 1) (.val (.slice none 0 0))) 0)).get tc1
    have v3' : v1 < 999999 ∧ v2 < 999999 ∧ v3 < 999999 := by omega
    have hwk := wrap_i64 (n := k + 1) (by omega)
    have hwS := wrap_i64 (n := S + 1) (by omega)
    have hwS2 : ((S : Int) + 1).toNat = S + 1 := by omega
    have hk2 : (k : Int) < 2 := by omega
    have bb : (k + 1) * 24 ≤ 140737488355328 ∧ (S + 1) * 24 ≤ 140737488355328 := by omega
    have tc0 := he.get hc
    clear hd hl p1 p2 p3 p4 q1 q2 q3 w1 w2 w3 w4 op op2 oq oq1 o' eA eB' g1 g2 m1 m2 f1 f1g f1n f2g f2n n' g' hgn ho hbe hra hfr tcA tcB f1e f2e e12 e' K1 K2 K3 i1 i2 i3 i12 i13 i23 l1 l2 l3 dlb hLσ eC eB eI gc gr gi xc2 xr2 xi2 c2 r2 n2
    funext ks
    unfold E2
    rw [l_impl_EitherChoices_1_2]
    simp [-callN] at k1 k2 tc0 tc1 tcm at1 at2 at3 hσ1 hσ2 hcall
    simp (config := { maxSteps := 2000000 }) [-callN, lb_impl_EitherChoices_1_2, hk, hk2, hs, hsr, hsi, kc, kr, ki, k1, k2, tc0, tc1, at1, at2, at3, hσ1, hσ2, hcall, lp, lq, lw, v3', hwk, hwS, hwS2, bb, hm0, hm1, mk1, tcm, setCells]
    done
  · intro i hi; rcases List.mem_append.1 hi with hi | hi; exact i1 i hi; simp at hi; omega
  · intro i hi; rcases List.mem_append.1 hi with hi | hi; exact i2 i hi; have := dlb i hi; omega
  · intro i hi; rcases List.mem_append.1 hi with hi | hi; exact i3 i hi; have := hfr i hi; omega
  · intro i hi hj
    rcases List.mem_append.1 hi with hi | hi <;> rcases List.mem_append.1 hj with hj | hj
    · exact i12 i hi hj
    · have := l1 i hi; have := dlb i hj; omega
    · simp at hi; have := l2 i hj; omega
    · simp at hi; have := dlb i hj; omega
  · intro i hi hj
    rcases List.mem_append.1 hi with hi | hi <;> rcases List.mem_append.1 hj with hj | hj
    · exact i13 i hi hj
    · have := l1 i hi; have := hfr i hj; omega
    · simp at hi; have := l3 i hj; omega
    · simp at hi; have := hfr i hj; omega
  · intro i hi hj
    rcases List.mem_append.1 hi with hi | hi <;> rcases List.mem_append.1 hj with hj | hj
    · exact i23 i hi hj
    · have := l2 i hi; have := hfr i hj; omega
    · have := dlb i hi; have := l3 i hj; omega
    · have := oq1.lt i hi; have := hfr i hj; omega
  · exact (eB'.trans e').set (by omega) _
  · exact Good.set g' _ _ _ (by rw [bels_append, Bool.and_eq_true]; exact ⟨Good.at g' at3, by simp only [PV.bels, Bool.and_true]; exact o'.bel⟩)
  · exact n'.set _ (row_nl (nls_append (n'.at (by simp) at3) (by simp [PV.nls, PV.nl])))
end Go.Proofs.Ytlolldjkahkbfaa
