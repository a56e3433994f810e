/- What is written by choices, and the place behind them: the program's and the reference's. -/
import Derived.Test.YtegjfjckijmgcaaProgRun2
import Derived.Test.YtegjfjckijmgcaaNest
set_option linter.unusedVariables false
set_option linter.unusedSimpArgs false
set_option maxRecDepth 100000
namespace Go.Proofs.Ytegjfjckijmgcaa
open Aw
def rpC (p : GProgram) (cs : List Int) : Int := if (runP p cs).2.2 = 0 then (if (runP p cs).1.size ≤ 60 then 0 else 3) else (runP p cs).2.2
def rpO (p : GProgram) (cs : List Int) : ByteArray := if rpC p cs = 0 then (runP p cs).1 else ⟨#[]⟩
def rpX (p : GProgram) (cs : List Int) : GPlace := if rpC p cs = 0 then (runP p cs).2.1 else ⟨0, 0, []⟩
theorem rpC_zero {p : GProgram} {cs : List Int} (h : rpC p cs = 0) : (runP p cs).2.2 = 0 ∧ (runP p cs).1.size ≤ 60 := by
  unfold rpC at h
  split at h
  · rename_i h1
    split at h
    · exact ⟨h1, by assumption⟩
    · cases h
  · contradiction
theorem ev_l00Own_b (l : List Int) (b : Bool) (hl : l.length ≤ 1048576) : ev fns i_spec_l00Own [.list 1 (l.map Enc.pv) b] [] = some (.own 0 0 0 l.length, [.row 1 (l.map Enc.pv) 0]) := by
  have b1 : l.length * 8 ≤ 140737488355328 ∧ l.length ≤ 140737488355328 := by omega
  refine go_spec_l00Own (by simp) ?_
  simp [ac_spec_l00Own, b1, nvRow, PV.bels, bels_map]
theorem cz_l00Own_b (l : List Int) (b : Bool) (hl : l.length ≤ 1048576) (σ : List AObj) : cz true (callV fns (ev fns)) (.val (.func (.func i_spec_l00Own) #[] #[])) [.list 1 (l.map Enc.pv) b] σ = some (lst 1 l, σ) := by
  have h := ev_l00Own_b l b hl
  exact cz_made (r := (.own 0 0 0 l.length, [.row 1 (l.map Enc.pv) 0])) (by simp [PV.bels, PV.bel]) (by simp [h]) (by simp [dfr]; omega) σ

@[simp] abbrev plR (x : GPlace) (k : Nat) : PV := .agg [i64 x.module, i64 x.node, .own 2 0 0 k]
set_option maxHeartbeats 8000000 in
theorem ro_spec_RunProgram (x : GPlace) (out : ByteArray) (hl : x.opn.length ≤ 1000) (ho : ∀ o ∈ x.opn, o.length ≤ 1048576) (ks : List KI) (k : Nat) (h : k < x.opn.length) (l : List (List Int)) (hk : l.length = k) :
    rE fns fa_spec_RunProgram 0 (.code lo_spec_RunProgram_0 :: .inBlock 0 :: ks) [(11, i64 (k : Nat)), (10, .ptr 1 0 0 0), (8, .fptr [i64 x.module, i64 x.node, .list 1 (x.opn.map encO) false] 0), (7, str out), (5, .ptr 0 0 0 0)] [.row 3 [zPl] 0, .row 3 [plR x k] 0, .row 1 (l.map Enc.pv) 0] =
      rE fns fa_spec_RunProgram 0 (.code lo_spec_RunProgram_0 :: .inBlock 0 :: ks) [(11, i64 ((k + 1 : Nat) : Int)), (10, .ptr 1 0 0 0), (8, .fptr [i64 x.module, i64 x.node, .list 1 (x.opn.map encO) false] 0), (7, str out), (5, .ptr 0 0 0 0)] [.row 3 [zPl] 0, .row 3 [plR x (k + 1)] 0, .row 1 ((l ++ [x.opn[k]]).map Enc.pv) 0] := by
  have hw := wrap_i64 (n := k + 1) (by omega)
  have hz := fun σ => cz_l00Own_b x.opn[k] true (ho _ (List.getElem_mem h)) σ
  have b1 : (k + 1) * 24 ≤ 140737488355328 := by omega
  have n0 : ∀ n, PV.bels n (l.map Enc.pv) = true := fun n => bels_map _ n
  subst hk
  rw [l_spec_RunProgram_0]
  simp at hz n0
  simp [lb_spec_RunProgram_0, h, hz, hw, b1, n0, bels_append, nvRow, PV.bels, PV.bel, PV.nv, PV.nvs, setCells]
theorem foldl_snoc {β : Type} : ∀ (l s : List β), l.foldl (fun s o => s ++ [o]) s = s ++ l
  | [], s => by simp
  | o :: l, s => by rw [List.foldl_cons, foldl_snoc l]; simp
theorem opn_small {p : GProgram} {k : Nat} {x : GPlace} (h : PlI p k x) : ∀ o ∈ x.opn, o.length = 2 := fun o ho => by
  obtain ⟨a, b, rfl, _⟩ := h.opn o ho; rfl
set_option maxHeartbeats 8000000 in
theorem spC_RunProgram (p : GProgram) (hp : Siz.size p ≤ 1048576) (cs : List Int) (hcs : Siz.size cs ≤ 1048576) : ∃ q, ev fns i_spec_RunProgram [p.v, lst 1 cs] [] = some (.tup [str (rpO p cs), q, i64 (rpC p cs)], []) ∧ q.bel 0 = true ∧ PV.ty (Own.sh GPlace) q = Enc.pv (rpX p cs) := by
  rw [Siz.size_flat_int] at hcs
  obtain ⟨O, h1, h2⟩ := ev_spec_l07Run p cs (by omega)
  simp at h1
  by_cases hc : rpC p cs = 0
  · obtain ⟨c1, c2⟩ := rpC_zero hc
    obtain ⟨g1, g2, g3⟩ := runP_ok c1
    obtain rfl := h2 c1
    rw [c1] at h1
    unfold rpO rpX
    simp only [hc, if_true]
    generalize (runP p cs).2.1 = x at *
    generalize (runP p cs).1 = out at *
    have hlen := g3.1.len
    simp only at hlen
    have lo := fun ks => (loop_fold (F := fun k (s : List (List Int)) => rE fns fa_spec_RunProgram 0 (.code lo_spec_RunProgram_0 :: .inBlock 0 :: ks) [(11, i64 (k : Nat)), (10, .ptr 1 0 0 0), (8, .fptr [i64 x.module, i64 x.node, .list 1 (x.opn.map encO) false] 0), (7, str out), (5, .ptr 0 0 0 0)] [.row 3 [zPl] 0, .row 3 [plR x k] 0, .row 1 (s.map Enc.pv) 0])
      (ls := x.opn) (f := fun (s : List (List Int)) (o : List Int) => s ++ [o]) (I := fun k s => s.length = k)
      (fun k s h hs => ⟨ro_spec_RunProgram x out (by omega) (fun o ho => by rw [opn_small g3.1 o ho]; omega) ks k h s hs, by simp [hs]⟩) (s := []) rfl).1
    rw [foldl_snoc, List.nil_append] at lo
    have l2 : ∀ ks, rE fns fa_spec_RunProgram 0 (.code lo_spec_RunProgram_0 :: .inBlock 0 :: ks) [(11, i64 (x.opn.length : Nat)), (10, .ptr 1 0 0 0), (8, .fptr [i64 x.module, i64 x.node, .list 1 (x.opn.map encO) false] 0), (7, str out), (5, .ptr 0 0 0 0)] [.row 3 [zPl] 0, .row 3 [plR x x.opn.length] 0, .row 1 (x.opn.map Enc.pv) 0] =
        rE fns fa_spec_RunProgram 0 ks [(10, .ptr 1 0 0 0), (7, str out), (5, .ptr 0 0 0 0)] [.row 3 [zPl] 0, .row 3 [plR x x.opn.length] 0, .row 1 (x.opn.map Enc.pv) 0] := by
      intro ks
      rw [l_spec_RunProgram_0]
      simp [lb_spec_RunProgram_0]
    have hll : x.opn.length ≤ 140737488355328 := by omega
    have m6 : ∀ σ, mapO (dfr σ 6) (x.opn.map Enc.pv) = some (x.opn.map Enc.pv) := fun σ => mapO_self fun q hq => by
      obtain ⟨o, _, rfl⟩ := List.mem_map.1 hq; rfl
    have ht : List.take x.opn.length (x.opn.map Enc.pv) = x.opn.map Enc.pv := List.take_of_length_le (by simp)
    have n0 : ∀ n, PV.bels n (x.opn.map Enc.pv) = true := fun n => bels_map _ n
    refine ⟨x.v, go_spec_RunProgram (by simp) ?_, by simp [PV.bel, PV.bels], ?_⟩
    · simp at lo l2 m6 ht n0
      simp [ac_spec_RunProgram, h1, show ¬ 60 < out.size by omega, show ¬ (60 : Int) < out.size by omega, lo, l2, hll, m6, ht, n0, dfr, mapO, nvRow, PV.bels, PV.bel, PV.nv, PV.nvs, setCells]
    · exact ty_place x
  · unfold rpO rpX
    simp only [hc, if_false]
    refine ⟨zPl, go_spec_RunProgram (by simp) ?_, by simp [PV.bel, PV.bels], rfl⟩
    unfold rpC at hc ⊢
    by_cases c1 : (runP p cs).2.2 = 0
    · rw [if_pos c1] at hc ⊢
      have c2 : ¬ (runP p cs).1.size ≤ 60 := fun h => by rw [if_pos h] at hc; exact hc rfl
      rw [if_neg c2]
      rw [c1] at h1
      simp [ac_spec_RunProgram, h1, show 60 < (runP p cs).1.size by omega, show (60 : Int) < (runP p cs).1.size by omega, dfr, mapO, setCells]
    · rw [if_neg c1] at hc ⊢
      simp [ac_spec_RunProgram, h1, c1, dfr, mapO, setCells]
theorem ev_CloneI (l : List Int) (hl : l.length ≤ 1048576) : ev fns i_slices_Clone_L_int64 [lst 1 l] [] = some (.own 0 0 0 l.length, [.row 1 (l.map Enc.pv) 0]) := by
  rw [sp_slices_Clone_L_int64]
  have b : l.length * 8 ≤ 140737488355328 := by omega
  simp [spClone, b]
abbrev RS := List AObj × Nat
/-- The places' lists, copied one after the other. -/
structure RpI (x : GPlace) (k : Nat) (s : RS) : Prop where
  r0 : s.1[0]? = some (.row 3 [zPl] 0)
  r1 : s.1[1]? = some (.row 3 [x.v] 0)
  ex : ∃ es ids, Lst s.1 2 s.2 es ids (x.opn.take k) ∧ ∀ i ∈ ids, 2 ≤ i
  g : Good s.1
  n : Nl [1] s.1
set_option maxHeartbeats 8000000 in
theorem ro_impl_RunProgram (x : GPlace) (out : ByteArray) (hl : x.opn.length ≤ 1000) (ho : ∀ o ∈ x.opn, o.length ≤ 1048576) (ks : List KI) (k : Nat) (s : RS) (h : k < x.opn.length) (hi : RpI x k s) :
    ∃ s' : RS, rE fns fa_impl_RunProgram 0 (.code lo_impl_RunProgram_0 :: .inBlock 0 :: ks) [(35, i64 (k : Nat)), (34, i64 x.opn.length), (33, lst 1 x.opn), (10, .own 2 s.2 0 k), (8, .ptr 1 0 0 0), (7, str out), (5, .ptr 0 0 0 0)] s.1 =
      rE fns fa_impl_RunProgram 0 (.code lo_impl_RunProgram_0 :: .inBlock 0 :: ks) [(35, i64 ((k + 1 : Nat) : Int)), (34, i64 x.opn.length), (33, lst 1 x.opn), (10, .own 2 s'.2 0 ((k + 1 : Nat))), (8, .ptr 1 0 0 0), (7, str out), (5, .ptr 0 0 0 0)] s'.1 ∧ RpI x (k + 1) s' := by
  obtain ⟨σ, v⟩ := s
  obtain ⟨r0, r1, ⟨es, ids, hL, hge⟩, g, n⟩ := hi
  simp only at r0 r1 hL g n
  have hw := wrap_i64 (n := k + 1) (by omega)
  have hlo := ho _ (List.getElem_mem h)
  obtain ⟨p, σ1, js, c1, o1, d1, g1, e1, n1⟩ := made_in (own_intsL x.opn[k] (by omega)) (goodN_intsL x.opn[k]) g n
  have hcl : callN fns i_slices_Clone_L_int64 [lst 1 x.opn[k]] σ = some (p, σ1) := by
    rw [callN_made (by simp [PV.bels]) (ev_CloneI x.opn[k] hlo), c1]
  have hL1 := hL.ext e1
  have h2 := hL1.at
  have hlen : es.length = k := by rw [hL.len]; simp; omega
  have hdis : ∀ i ∈ ids, i ∉ js := fun i hi hj => by have := hL.lt i hi; have := d1 i hj; omega
  have hP := hL1.push o1 hdis
  have ht : x.opn.take (k + 1) = x.opn.take k ++ [x.opn[k]] := by rw [List.take_add_one, List.getElem?_eq_getElem h]; rfl
  have hgt : 2 < σ1.length := (List.getElem?_eq_some_iff.1 h2).1
  have hpn := own_one o1.own
  refine ⟨(σ1.set 2 (.row 1 (es ++ [p]) (v + 1)), v + 1), ?_, ⟨?_, ?_, ⟨_, _, by rw [ht]; exact hP, ?_⟩, ?_, ?_⟩⟩
  · rw [l_impl_RunProgram_0]
    have b1 : (k + 1) * 24 ≤ 140737488355328 := by omega
    have htk : List.take k es = es := List.take_of_length_le (by omega)
    have q1 := hpn.2.2.2
    have q2 := hpn.2.2.1
    have q4 := hpn.2.1
    simp [-callN] at hcl h2 q1 q2 q4
    cases q3 : p.bel 0 <;> simp [-callN, lb_impl_RunProgram_0, h, hcl, h2, hlen, htk, b1, hw, q1, q2, q3, q4]

  · simp only; rw [List.getElem?_set_ne (by omega)]; exact e1.get r0
  · simp only; rw [List.getElem?_set_ne (by omega)]; exact e1.get r1
  · intro i hi
    rcases List.mem_append.1 hi with hi | hi
    · exact hge i hi
    · have := d1 i hi; have := hL.lt 2 hL.mem; omega
  · refine Good.set g1 2 1 _ ?_
    rw [bels_append, Bool.and_eq_true]
    exact ⟨Good.at g1 h2, by simp only [PV.bels, Bool.and_true]; exact o1.bel⟩
  · refine n1.set 2 (row_nl (nls_append (n1.at (by simp) h2) ?_))
    simp only [PV.nls, Bool.and_true]; exact Own.nl o1.own

theorem own_zPl {σ : List AObj} : OwnIn σ [] zPl (⟨0, 0, []⟩ : GPlace) := ⟨⟨[], _, [], _, [], _, rfl, rfl, ⟨rfl, rfl⟩, ⟨rfl, rfl⟩, .inl ⟨rfl, rfl, rfl⟩⟩, by simp, by simp⟩
theorem good_zPl : GoodN [.row 3 [zPl] 0] := ⟨by simp [Good, objsBel, PV.bels, PV.bel], by simp [AObj.nl, PV.nls, PV.nl]⟩
set_option maxHeartbeats 8000000 in
theorem imC_RunProgram (p : GProgram) (hp : Siz.size p ≤ 1048576) (cs : List Int) (hcs : Siz.size cs ≤ 1048576) : ∃ q τ ids, ev fns i_impl_RunProgram [p.v, lst 1 cs] [] = some (.tup [str (rpO p cs), q, i64 (rpC p cs)], τ) ∧ OwnIn τ ids q (rpX p cs) ∧ GoodN τ := by
  rw [Siz.size_flat_int] at hcs
  obtain ⟨x, h1, h2⟩ := ev_impl_run p cs (by omega)
  simp at h1
  by_cases hc : rpC p cs = 0
  · obtain ⟨c1, c2⟩ := rpC_zero hc
    obtain ⟨g1, g2, g3⟩ := runP_ok c1
    obtain rfl := h2 c1
    rw [c1] at h1
    unfold rpO rpX
    simp only [hc, if_true]
    generalize (runP p cs).2.1 = x at *
    generalize (runP p cs).1 = out at *
    have hlen := g3.1.len
    simp only at hlen
    -- the loop
    have st : RpI x 0 ([.row 3 [zPl] 0, .row 3 [x.v] 0, .row 1 [] 0], 0) := by
      refine ⟨rfl, rfl, ⟨[], [2], ?_, by simp⟩, ?_, ?_⟩
      · have := Lst.new (α := List Int) [.row 3 [zPl] 0, .row 3 [x.v] 0] 0
        simpa using this
      · simp [Good, objsBel, PV.bels, PV.bel]
      · intro j o hj ho
        match j, hj, ho with
        | 0, _, ho => simp at ho; subst ho; simp [AObj.nl, PV.nls, PV.nl]
        | 1, hj, _ => simp at hj
        | 2, _, ho => simp at ho; subst ho; rfl
        | j + 3, _, ho => simp at ho
    have lo := fun ks => loop_known (F := fun k (s : RS) => rE fns fa_impl_RunProgram 0 (.code lo_impl_RunProgram_0 :: .inBlock 0 :: ks) [(35, i64 (k : Nat)), (34, i64 x.opn.length), (33, lst 1 x.opn), (10, .own 2 s.2 0 k), (8, .ptr 1 0 0 0), (7, str out), (5, .ptr 0 0 0 0)] s.1)
      (n := x.opn.length) (I := RpI x)
      (fun k s h hi => ro_impl_RunProgram x out (by omega) (fun o ho => by rw [opn_small g3.1 o ho]; omega) ks k s h hi) (s := ([.row 3 [zPl] 0, .row 3 [x.v] 0, .row 1 [] 0], 0)) st
    obtain ⟨s, k1, hi⟩ := lo [.code (.ghost (.kill [33, 34, 35]) (.seq (.post (.reg [⟨(some 45), .op (.mv (.tmp 10)), none⟩, ⟨(some 46), .op (.faddr (.tmp 8) 2), none⟩, ⟨none, .op (.store 1 (.tmp 46) (.tmp 45)), none⟩]) (.kill [10, 45, 46])) (.seq (.post (.draw [⟨0, ⟨(some 47), .op (.mv (.tmp 7)), none⟩, []⟩, ⟨1, ⟨(some 48), .op (.load 3 true (.tmp 8)), none⟩, []⟩, ⟨2, ⟨(some 4), .op (.mv (.tmp 47)), none⟩, []⟩, ⟨3, ⟨none, .op (.store 3 (.tmp 5) (.tmp 48)), none⟩, []⟩, ⟨4, ⟨(some 6), .op (.mv (.const (Value.int .i64 0))), none⟩, []⟩] [0, 0, 1, 7, 15]) (.kill [7, 8, 47, 48])) .ret)))]
    obtain ⟨σ, v⟩ := s
    obtain ⟨r0, r1, ⟨es, ids, hL, hge⟩, g, n⟩ := hi
    simp only at r0 r1 hL g n
    rw [List.take_length] at hL
    have hgt : 2 < σ.length := (List.getElem?_eq_some_iff.1 hL.at).1
    have hgt1 : 1 < σ.length := by omega
    have hgt0 : 0 < σ.length := by omega
    have hO := hL.own (by omega)
    refine ⟨.agg [i64 x.module, i64 x.node, .own 2 v 0 x.opn.length], (σ.set 1 (.row 3 [.agg [i64 x.module, i64 x.node, .own 2 v 0 x.opn.length]] 0)).set 0 (.row 3 [.agg [i64 x.module, i64 x.node, .own 2 v 0 x.opn.length]] 0), ids, go_impl_RunProgram (by simp) ?_, ?_, ?_⟩
    · have s1 : ∀ r, (σ.set 1 r)[1]? = some r := fun r => List.getElem?_set_self hgt1
      have s0 : ∀ r r', ((σ.set 1 r).set 0 r')[0]? = some r' := fun r r' => List.getElem?_set_self (by simpa using hgt0)
      have s2 : ∀ r, (σ.set 1 r)[0]? = some (.row 3 [zPl] 0) := fun r => by rw [List.getElem?_set_ne (by omega)]; exact r0
      have hb : PV.bels σ.length [.agg [i64 x.module, i64 x.node, .own 2 v 0 x.opn.length]] = true := by simp [PV.bels, PV.bel, hgt]
      have gg := Good.set (Good.set g 1 3 0 hb) 0 3 (es := [.agg [i64 x.module, i64 x.node, .own 2 v 0 x.opn.length]]) 0 (by simpa using hb)
      unfold Good at gg
      simp at k1 r0 r1 s1 s0 s2 gg
      simp [ac_impl_RunProgram, h1, show ¬ 60 < out.size by omega, show ¬ (60 : Int) < out.size by omega, k1, setCells]
      rw [l_impl_RunProgram_0]
      simp [lb_impl_RunProgram_0, r0, r1, s1, s0, s2, gg, hgt, setCells]
    · refine ⟨⟨[], _, [], _, ids, _, by simp, rfl, ⟨rfl, rfl⟩, ⟨rfl, rfl⟩, Own.frame hO.own fun i hi => ?_⟩, hO.nd, fun i hi => by simpa using hO.lt i hi⟩
      have := hge i hi
      rw [List.getElem?_set_ne (by omega), List.getElem?_set_ne (by omega)]
    · have hb : PV.bels σ.length [.agg [i64 x.module, i64 x.node, .own 2 v 0 x.opn.length]] = true := by simp [PV.bels, PV.bel, hgt]
      have hnl : (AObj.row 3 [.agg [i64 x.module, i64 x.node, .own 2 v 0 x.opn.length]] 0).nl = true := by simp [AObj.nl, PV.nls, PV.nl]
      have g1 := Good.set g 1 3 0 hb
      have g2 := Good.set g1 0 3 (es := [.agg [i64 x.module, i64 x.node, .own 2 v 0 x.opn.length]]) 0 (by simpa using hb)
      exact ((n.fix hnl).set 0 hnl).good g2
  · unfold rpO rpX
    simp only [hc, if_false]
    refine ⟨zPl, [], [], go_impl_RunProgram (by simp) ?_, own_zPl, GoodN.nil⟩
    unfold rpC at hc ⊢
    by_cases c1 : (runP p cs).2.2 = 0
    · obtain rfl := h2 c1
      rw [if_pos c1] at hc ⊢
      have c2 : ¬ (runP p cs).1.size ≤ 60 := fun h => by rw [if_pos h] at hc; exact hc rfl
      rw [if_neg c2]
      rw [c1] at h1
      simp [ac_impl_RunProgram, h1, show 60 < (runP p cs).1.size by omega, show (60 : Int) < (runP p cs).1.size by omega, nvRow, PV.bels, PV.bel, setCells]
    · rw [if_neg c1] at hc ⊢
      simp [ac_impl_RunProgram, h1, c1, nvRow, PV.bels, PV.bel, setCells]
theorem leC_RunProgram (p : GProgram) (hp : Siz.size p ≤ 1048576) (cs : List Int) (hcs : Siz.size cs ≤ 1048576) : Siz.size (rpX p cs) ≤ 1048576 := by
  rw [size_Place]
  unfold rpX
  split
  · rename_i hc
    obtain ⟨c1, _⟩ := rpC_zero hc
    obtain ⟨g1, g2, g3⟩ := runP_ok c1
    generalize (runP p cs).2.1 = x at *
    have h1 := g3.1.len
    have h2 := opn_small g3.1
    simp only at h1 h2
    rw [Siz.size_list]
    have key : ∀ l : List (List Int), (∀ o ∈ l, o.length = 2) → Siz.sum l = 2 * l.length := by
      intro l
      induction l with
      | nil => intro _; rfl
      | cons o l ih =>
        intro h
        have e1 := ih fun q hq => h q (by simp [hq])
        have e2 := h o (by simp)
        simp only [Siz.sum, Siz.size_flat_int, List.length_cons]; omega
    rw [key _ h2]; omega
  · simp [Siz.size_list, Siz.sum]
end Go.Proofs.Ytegjfjckijmgcaa
