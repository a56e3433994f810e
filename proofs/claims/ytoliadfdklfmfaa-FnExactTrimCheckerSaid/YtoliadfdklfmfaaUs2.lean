/- The states to which moves lead: the program's search. -/
import Derived.Test.YtoliadfdklfmfaaUs1
set_option linter.unusedVariables false
set_option linter.unusedSimpArgs false
set_option maxRecDepth 100000
namespace Go.Proofs.Ytoliadfdklfmfaa
open Aw
theorem ev_IndexU (a : List Int) (v : Int) (ha : a.length ≤ 9223372036854775806) : ev fns i_slices_Index_L_int64 [lst 1 a, i64 v] [] = some (i64 (ixOf (fun x => decide (v = x)) a), []) := by
  refine go_slices_Index_L_int64 (by simp) ?_
  have lo := loop_ix (F := fun k => rE fns fa_slices_Index_L_int64 0 [.code lo_slices_Index_L_int64_0, .inBlock 0, .code (.ghost (.kill [0, 1, 7, 8]) (.seq (.reg [⟨(some 4), .op (.mv (.const (Value.int .i64 (-1)))), none⟩]) .ret))] [(8, i64 (k : Nat)), (7, i64 a.length), (1, i64 v), (0, lst 1 a)] [])
    (a := a) (p := fun x => decide (v = x)) (e := some (i64 (-1), [])) (r := fun i => some (i64 (i : Nat), []))
    (fun k h => by
      have hw := wrap_i64 (n := k + 1) (by omega)
      refine ⟨fun hp => ?_, fun hp => ?_⟩
      · simp at hp
        rw [l_slices_Index_L_int64_0]
        simp [lb_slices_Index_L_int64_0, h, hp, hw]
      · simp at hp
        rw [l_slices_Index_L_int64_0]
        simp [lb_slices_Index_L_int64_0, h, hp])
    (by
      rw [l_slices_Index_L_int64_0]
      simp [lb_slices_Index_L_int64_0])
  simp at lo
  simp [ac_slices_Index_L_int64, lo]
  unfold ixOf
  cases firstIx (fun x => decide (v = x)) a <;> simp
theorem ev_ContainsU (a : List Int) (v : Int) (ha : a.length ≤ 9223372036854775806) : ev fns i_slices_Contains_L_int64 [lst 1 a, i64 v] [] = some (bol (a.contains v), []) := by
  refine go_slices_Contains_L_int64 (by simp) ?_
  have h := ev_IndexU a v ha
  have h2 := ixOf_any (fun x => decide (v = x)) a
  have h3 : (a.any fun x => decide (v = x)) = a.contains v := by
    rw [List.contains_eq_any_beq]; congr 1
  simp at h
  simp [ac_slices_Contains_L_int64, h]
  have h4 := h2.trans h3
  rw [Bool.eq_iff_iff] at h4
  simpa using h4
theorem ev_GrowU (n : Nat) (h0 : 0 < n) (hn : n ≤ 100000) : ev fns i_slices_Grow_L_int64 [.val (.slice none 0 0), i64 n] [] = some (.own 0 0 0 0, [.row 1 [] 0]) := by
  refine go_slices_Grow_L_int64 (by simp) ?_
  have hw := wrap_i64 (n := (n : Int)) (by omega)
  have b1 : n * 8 ≤ 140737488355328 := by omega
  have hb : ∀ k m, PV.bels k (List.replicate m (anyE 1)) = true := fun k m => bels_replicate (by simp [anyE, PV.bel]) m
  simp [ac_slices_Grow_L_int64, hw, h0, b1, hb, show ¬ ((n : Int) < 0) by omega, show (0 : Int) < n by omega, nvRow, PV.bels]
  done
set_option maxHeartbeats 8000000 in
theorem ev_ConcatU (a b d e : List Int) (xa xb xd xe ex : Bool) (h0 : 0 < a.length) (ha : a.length ≤ 1000) (hb : b.length ≤ 1000) (hd : d.length ≤ 1000) (he : e.length ≤ 1000) :
    ev fns i_slices_Concat_L_int64 [.list 1 [.list 1 (a.map Enc.pv) xa, .list 1 (b.map Enc.pv) xb, .list 1 (d.map Enc.pv) xd, .list 1 (e.map Enc.pv) xe] ex] [] = some (lst 1 (a ++ (b ++ (d ++ e))), []) := by
  refine go_slices_Concat_L_int64 (by simp) ?_
  have w1 : IntKind.i64.wrap 1 = 1 := by decide
  have w2 : IntKind.i64.wrap 2 = 2 := by decide
  have w3 : IntKind.i64.wrap 3 = 3 := by decide
  have w4 : IntKind.i64.wrap 4 = 4 := by decide
  have wa := wrap_i64 (n := (a.length : Int)) (by omega)
  have wb := wrap_i64 (n := (a.length : Int) + b.length) (by omega)
  have wd := wrap_i64 (n := (a.length : Int) + b.length + d.length) (by omega)
  have we := wrap_i64 (n := (a.length : Int) + b.length + d.length + e.length) (by omega)
  have hg := ev_GrowU (a.length + b.length + d.length + e.length) (by omega) (by omega)
  have c1 : a.length * 8 ≤ 140737488355328 := by omega
  have c2 : (a.length + b.length) * 8 ≤ 140737488355328 := by omega
  have c3 : (a.length + (b.length + d.length)) * 8 ≤ 140737488355328 := by omega
  have c4 : (a.length + (b.length + (d.length + e.length))) * 8 ≤ 140737488355328 := by omega
  have c3' : (a.length + b.length + d.length) * 8 ≤ 140737488355328 := by omega
  have c4' : (a.length + b.length + d.length + e.length) * 8 ≤ 140737488355328 := by omega
  have c5 : a.length + (b.length + (d.length + e.length)) ≤ 140737488355328 := by omega
  have c5' : a.length + b.length + d.length + e.length ≤ 140737488355328 := by omega
  simp at hg
  simp [ac_slices_Concat_L_int64]
  rw [l_slices_Concat_L_int64_0]
  simp [lb_slices_Concat_L_int64_0, w1, w2, w3, w4, wa, show ¬ ((a.length : Int) < 0) by omega]
  rw [l_slices_Concat_L_int64_0]
  simp [lb_slices_Concat_L_int64_0, w1, w2, w3, w4, wb, show ¬ ((a.length : Int) + b.length < 0) by omega]
  rw [l_slices_Concat_L_int64_0]
  simp [lb_slices_Concat_L_int64_0, w1, w2, w3, w4, wd, show ¬ ((a.length : Int) + b.length + d.length < 0) by omega]
  rw [l_slices_Concat_L_int64_0]
  simp [lb_slices_Concat_L_int64_0, w1, w2, w3, w4, we, show ¬ ((a.length : Int) + b.length + d.length + e.length < 0) by omega]
  rw [l_slices_Concat_L_int64_0]
  simp [lb_slices_Concat_L_int64_0, hg]
  rw [l_slices_Concat_L_int64_1]
  simp [lb_slices_Concat_L_int64_1, w1, w2, w3, w4, c1, nvRow, PV.bels, Nat.add_assoc]
  rw [l_slices_Concat_L_int64_1]
  simp [lb_slices_Concat_L_int64_1, w1, w2, w3, w4, c2, nvRow, PV.bels, Nat.add_assoc]
  rw [l_slices_Concat_L_int64_1]
  simp [lb_slices_Concat_L_int64_1, w1, w2, w3, w4, c3, c3', nvRow, PV.bels, Nat.add_assoc]
  rw [l_slices_Concat_L_int64_1]
  simp [lb_slices_Concat_L_int64_1, w1, w2, w3, w4, c4, c4', nvRow, PV.bels, Nat.add_assoc]
  rw [l_slices_Concat_L_int64_1]
  simp [lb_slices_Concat_L_int64_1, w1, w2, w3, w4, c4, c4', c5, c5', nvRow, PV.bels, Nat.add_assoc]
  done
theorem lo_used_0 (c : GChecker) (i : Nat) (R : List Int) (hR : R.length ≤ 1000) (out : List Int) (ho : out.length ≤ 1000) (ks : List KI) :
    rE fns fa_impl_Checker_used 0 (.code lo_impl_Checker_used_0 :: .inBlock 2 :: ks) [(62, i64 0), (61, i64 R.length), (60, lst 1 R), (4, i64 (i : Nat)), (3, .own 0 0 0 out.length), (1, CkP c)] [.row 1 (out.map Enc.pv) 0] =
      rE fns fa_impl_Checker_used 0 ks [(4, i64 (i : Nat)), (3, .own 0 0 0 (R.foldl adU out).length), (1, CkP c)] [.row 1 ((R.foldl adU out).map Enc.pv) 0] := by
  have lo := loop_fold (F := fun k o => rE fns fa_impl_Checker_used 0 (.code lo_impl_Checker_used_0 :: .inBlock 2 :: ks) [(62, i64 (k : Nat)), (61, i64 R.length), (60, lst 1 R), (4, i64 (i : Nat)), (3, .own 0 0 0 o.length), (1, CkP c)] [.row 1 (o.map Enc.pv) 0]) (ls := R) (f := adU) (fun k o => o.length ≤ out.length + k)
    (fun k o hk hI => by
      refine ⟨?_, ?_⟩
      · have hw := wrap_i64 (n := k + 1) (by omega)
        have hlt : (k : Int) < R.length := by omega
        have hct := ev_ContainsU o R[k] (by omega)
        have b1 : (o.length + 1) * 8 ≤ 140737488355328 ∧ o.length ≤ 140737488355328 := by omega
        rw [l_impl_Checker_used_0]
        unfold adU
        by_cases hm : R[k] ∈ o
        · rw [if_pos hm]
          have hc : o.contains R[k] = true := by simpa using hm
          rw [hc] at hct
          simp at hct
          simp [lb_impl_Checker_used_0, hk, hlt, hw, hct, b1]
        · rw [if_neg hm]
          have hc : o.contains R[k] = false := by simpa using hm
          rw [hc] at hct
          simp at hct
          simp [lb_impl_Checker_used_0, hk, hlt, hw, hct, b1]
      · unfold adU; split
        · omega
        · simp; omega)
    (s := out) (by omega)
  have e0 := lo.1
  refine Eq.trans e0 ?_
  rw [l_impl_Checker_used_0]
  simp [lb_impl_Checker_used_0]
theorem lo_used_1 (c : GChecker) (hok : okCk c = true) : ∀ (m i : Nat) (out : List Int), c.accept.length - i ≤ m → UsI c i out →
    ∃ out', (∀ ks, rE fns fa_impl_Checker_used 0 (.code lo_impl_Checker_used_1 :: .inBlock 0 :: ks) [(4, i64 (i : Nat)), (3, .own 0 0 0 out.length), (1, CkP c)] [.row 1 (out.map Enc.pv) 0] =
      rE fns fa_impl_Checker_used 0 ks [(3, .own 0 0 0 out'.length)] [.row 1 (out'.map Enc.pv) 0]) ∧ UsI c out'.length out' := by
  have g1 := (okCk_len hok).1
  have g2 := (okCk_len hok).2.1
  simp only [inR, Bool.and_eq_true, decide_eq_true_eq] at g1 g2
  intro m
  induction m with
  | zero =>
    intro i out hm hI
    have hl := hI.len hok
    have hle := hI.le
    have hi : ¬ i < out.length := by omega
    have hie : i = out.length := by omega
    refine ⟨out, fun ks => ?_, by rw [← hie]; exact hI⟩
    have hlt : ¬ (i : Int) < out.length := by omega
    rw [l_impl_Checker_used_1]
    simp [lb_impl_Checker_used_1, hi, hlt]
  | succ m ih =>
    intro i out hm hI
    have hl := hI.len hok
    have hle := hI.le
    by_cases hi : i < out.length
    · have hs := rch_in hok (hI.rc _ (List.getElem_mem hi))
      obtain ⟨s, h1, h2, h3, h4, p0, p1, q0, q1, i0, i1, es, e1, e2, e3, k1, k2, k3, k4, k5, k6⟩ := ck_at hok (s := out[i]) (by simp only [inR, Bool.and_eq_true, decide_eq_true_eq]; omega)
      have hn := nxC_row h1 h2 h3 e1 e2 e3
      have hI1 := hI.next hi
      rw [es, Int.toNat_natCast, hn] at hI1
      simp only [okSts, Bool.and_eq_true, decide_eq_true_eq] at k3 k4
      have hc4 := ev_ConcatU q0 q1 [i0, i1] [p0.to, p1.to] false false false true true (by omega) (by omega) (by omega) (by simp) (by simp)
      obtain ⟨out', k, hI2⟩ := ih (i + 1) _ (by omega) hI1
      refine ⟨out', fun ks => ?_, hI2⟩
      refine Eq.trans ?_ (k ks)
      have hw := wrap_i64 (n := i + 1) (by omega)
      have hlt : (i : Int) < out.length := by omega
      have lo := lo_used_0 c i (q0 ++ (q1 ++ ([i0, i1] ++ [p0.to, p1.to]))) (by simp; omega) out (by omega)
      rw [l_impl_Checker_used_1]
      simp at hc4 lo hn
      simp [lb_impl_Checker_used_1, hi, hlt, es, h1, h2, h3, e1, e2, e3, hc4, lo, hw]
      done
    · have hie : i = out.length := by omega
      refine ⟨out, fun ks => ?_, by rw [← hie]; exact hI⟩
      have hlt : ¬ (i : Int) < out.length := by omega
      rw [l_impl_Checker_used_1]
      simp [lb_impl_Checker_used_1, hi, hlt]
theorem ev_impl_used (c : GChecker) (hok : okCk c = true) : ev fns i_impl_Checker_used [c.v] [] = some (.own 0 0 0 (usL c).length, [.row 1 ((usL c).map Enc.pv) 0]) := by
  refine go_impl_Checker_used (by simp) ?_
  obtain ⟨out, lo, hI⟩ := lo_used_1 c hok _ 0 [c.start] (Nat.le_refl _) (UsI.start c)
  have hl := hI.len hok
  have g1 := (okCk_len hok).1
  simp only [inR, Bool.and_eq_true, decide_eq_true_eq] at g1
  have he := usL_sort hok hI.nd hI.all
  have hll : (usL c).length = out.length := by rw [← he, sortI_len]
  have hpos : 0 < out.length := List.length_pos_of_mem hI.st
  have hso : ev fns i_slices_Sort_L_int64 [.own 0 0 0 out.length] [.row 1 (out.map Enc.pv) 0] = some (.tup [], [.row 1 ((usL c).map Enc.pv) 0]) := by
    rw [sp_slices_Sort_L_int64, ← he]
    have h1 : out.map Enc.pv = out.map fun z => PV.val (.int .i64 z) := rfl
    simp only [spSort, List.getElem?_cons_zero, h1, intsOf_map, List.length_map]
    rw [if_pos ⟨trivial, trivial, by omega, trivial, trivial, hpos, by omega⟩]
    rfl
  rw [hll]
  simp at lo hso
  simp [ac_impl_Checker_used, lo, hso]
end Go.Proofs.Ytoliadfdklfmfaa
