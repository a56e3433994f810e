/- Choices that are valid: the program's and the reference's. -/
import Derived.Test.YtlolldjkahkbfaaSmall
import Derived.Test.YtlolldjkahkbfaaDat
import Derived.Test.YtlolldjkahkbfaaNestS
import Derived.Test.YtlolldjkahkbfaaSls
set_option linter.unusedVariables false
set_option linter.unusedSimpArgs false
set_option maxRecDepth 100000
namespace Go.Proofs.Ytlolldjkahkbfaa
open Aw
theorem getD_at' {α : Type} {l : List α} {d : α} {s : Nat} (h : s < l.length) : l.getD s d = l[s] := by simp [List.getD_eq_getElem?_getD, h]
def risAt (n : Int) (l : List Int) (i : Nat) : Bool := inR (l.getD i 0) 0 (n - 1) && (decide (i = 0) || decide (l.getD (i - 1) 0 < l.getD i 0))
def okRis (n : Int) (l : List Int) : Bool := (List.range l.length).all (risAt n l)
set_option maxHeartbeats 4000000 in
theorem ev_impl_isRising (n : Int) (hn : 0 ≤ n ∧ n ≤ 1048576) (l : List Int) (hl : l.length ≤ 1048576) : ev fns i_impl_isRising [lst 1 l, i64 n] [] = some (bol (okRis n l), []) := by
  have w1 := wrap_i64 (n := n - 1) (by omega)
  have lo := fun ks => loop_below (F := fun i => rE fns fa_impl_isRising 0 (.code lo_impl_isRising_0 :: .inBlock 0 :: ks) [(9, i64 (i : Nat)), (8, i64 (l.length : Nat)), (7, lst 1 l), (1, i64 n), (0, lst 1 l)] [])
    (n := l.length) (p := risAt n l) (e := rE fns fa_impl_isRising 0 ks [] []) (r := some (bol false, [])) (fun i hi => by
      have hw := wrap_i64 (n := i + 1) (by omega)
      have hwm := wrap_i64 (n := (i : Int) - 1) (by omega)
      rw [l_impl_isRising_0]
      unfold risAt
      rw [getD_at' hi]
      cases c1 : inR l[i] 0 (n - 1)
      · refine ⟨fun h => by simp at h, fun _ => ?_⟩
        simp [lb_impl_isRising_0, hi, w1, c1]
      · cases i with
        | zero =>
          refine ⟨fun _ => ?_, fun h => by simp at h⟩
          simp [lb_impl_isRising_0, hi, w1, c1, show IntKind.i64.wrap 1 = 1 by decide]
          done
        | succ j =>
          have hj : j < l.length := by omega
          have e1 : ((j + 1 : Nat) : Int) - 1 = j := by omega
          have e2 : (0 : Int) < (j : Int) + 1 := by omega
          have e0 : (0 : Int) ≤ (j : Int) + 1 := by omega
          have e5 : ((j : Int) + 1).toNat = j + 1 := by omega
          have e3 : ((j : Int) + 1) - 1 = j := by omega
          have w2 := wrap_i64 (n := j) (by omega)
          have hlt : (j : Int) + 1 < l.length := by omega
          rw [show j + 1 - 1 = j by omega, getD_at' hj]
          simp only [Int.natCast_add, Int.cast_ofNat_Int] at hw hwm
          by_cases c2 : l[j] < l[j + 1]
          · refine ⟨fun _ => ?_, fun h => by simp [c2] at h⟩
            simp [lb_impl_isRising_0, hi, hj, hlt, w1, w2, c1, c2, e0, e1, e2, e3, e5, hw, show ¬ l[j + 1] ≤ l[j] by omega]
            done
          · refine ⟨fun h => by simp [c2] at h, fun _ => ?_⟩
            simp [lb_impl_isRising_0, hi, hj, hlt, w1, w2, c1, c2, e0, e1, e2, e3, e5, hw, show l[j + 1] ≤ l[j] by omega]
            done)
    (by
      rw [l_impl_isRising_0]
      simp [lb_impl_isRising_0])
  refine go_impl_isRising (by simp) ?_
  unfold okRis
  cases c : (List.range l.length).all (risAt n l)
  · rw [c] at lo
    simp at lo
    simp [ac_impl_isRising, lo]
  · rw [c] at lo
    simp at lo
    simp [ac_impl_isRising, lo]
set_option maxHeartbeats 4000000 in
theorem ev_spec_l00Rises (n : Int) (l : List Int) (hl : l.length ≤ 1048576) : ev fns i_spec_l00Rises [lst 1 l, i64 0, i64 (n - 1)] [] = some (bol (okRis n l), []) := by
  have lo := fun ks => loop_below (F := fun i => rE fns fa_spec_l00Rises 0 (.code lo_spec_l00Rises_0 :: .inBlock 0 :: ks) [(7, i64 (i : Nat)), (2, i64 (n - 1)), (1, i64 0), (0, lst 1 l)] [])
    (n := l.length) (p := risAt n l) (e := rE fns fa_spec_l00Rises 0 ks [] []) (r := some (bol false, [])) (fun i hi => by
      have hw := wrap_i64 (n := i + 1) (by omega)
      have hwm := wrap_i64 (n := (i : Int) - 1) (by omega)
      rw [l_spec_l00Rises_0]
      unfold risAt
      rw [getD_at' hi]
      cases c1 : inR l[i] 0 (n - 1)
      · refine ⟨fun h => by simp at h, fun _ => ?_⟩
        simp [lb_spec_l00Rises_0, hi, c1]
      · cases i with
        | zero =>
          refine ⟨fun _ => ?_, fun h => by simp at h⟩
          simp [lb_spec_l00Rises_0, hi, c1, show IntKind.i64.wrap 1 = 1 by decide]
          done
        | succ j =>
          have hj : j < l.length := by omega
          have e1 : ((j + 1 : Nat) : Int) - 1 = j := by omega
          have e2 : (0 : Int) < (j : Int) + 1 := by omega
          have e0 : (0 : Int) ≤ (j : Int) + 1 := by omega
          have e5 : ((j : Int) + 1).toNat = j + 1 := by omega
          have e3 : ((j : Int) + 1) - 1 = j := by omega
          have w2 := wrap_i64 (n := j) (by omega)
          have hlt : (j : Int) + 1 < l.length := by omega
          rw [show j + 1 - 1 = j by omega, getD_at' hj]
          simp only [Int.natCast_add, Int.cast_ofNat_Int] at hw hwm
          by_cases c2 : l[j] < l[j + 1]
          · refine ⟨fun _ => ?_, fun h => by simp [c2] at h⟩
            simp [lb_spec_l00Rises_0, hi, hj, hlt, w2, c1, c2, e0, e1, e2, e3, e5, hw, show ¬ l[j + 1] ≤ l[j] by omega]
            done
          · refine ⟨fun h => by simp [c2] at h, fun _ => ?_⟩
            simp [lb_spec_l00Rises_0, hi, hj, hlt, w2, c1, c2, e0, e1, e2, e3, e5, hw, show l[j + 1] ≤ l[j] by omega]
            done)
    (by
      rw [l_spec_l00Rises_0]
      simp [lb_spec_l00Rises_0])
  refine go_spec_l00Rises (by simp) ?_
  unfold okRis
  cases c : (List.range l.length).all (risAt n l)
  · rw [c] at lo
    simp at lo
    simp [ac_spec_l00Rises, lo]
  · rw [c] at lo
    simp at lo
    simp [ac_spec_l00Rises, lo]
/-! ### Moves -/
def pLt (p q : GPush) : Bool := decide (p.to < q.to) || (decide (p.to = q.to) && decide (p.put < q.put))
def puAt (n st : Int) (l : List GPush) (i : Nat) : Bool := inR (l.getD i ⟨0, 0⟩).to 0 (n - 1) && inR (l.getD i ⟨0, 0⟩).put 0 (st - 1) && (decide (i = 0) || pLt (l.getD (i - 1) ⟨0, 0⟩) (l.getD i ⟨0, 0⟩))
def okPus (n st : Int) (l : List GPush) : Bool := (List.range l.length).all (puAt n st l)
def cmpI (x y : Int) : Int := if x < y then -1 else if y < x then 1 else 0
def cmpP (a b : GPush) : Int := if cmpI a.to b.to ≠ 0 then cmpI a.to b.to else cmpI a.put b.put
theorem cmpP_lt (a b : GPush) : pLt a b = !decide (0 ≤ cmpP a b) := by
  unfold pLt cmpP cmpI
  by_cases h1 : a.to < b.to
  · simp [h1]
  · by_cases h2 : b.to < a.to
    · simp [h1, h2, show ¬ a.to = b.to by omega]
    · have h3 : a.to = b.to := by omega
      by_cases h4 : a.put < b.put
      · simp [h3, h4]
      · by_cases h5 : b.put < a.put
        · simp [h3, h4, h5]
        · simp [h3, h4, h5]
theorem ev_isNaN (x : Int) : ev fns i_cmp_isNaN_int64 [i64 x] [] = some (bol false, []) := by
  refine go_cmp_isNaN_int64 (by simp) ?_
  simp [ac_cmp_isNaN_int64]
theorem ev_Compare (x y : Int) : ev fns i_cmp_Compare_int64 [i64 x, i64 y] [] = some (i64 (cmpI x y), []) := by
  have h1 := ev_isNaN x
  have h2 := ev_isNaN y
  refine go_cmp_Compare_int64 (by simp) ?_
  simp at h1 h2
  unfold cmpI
  by_cases c1 : x < y
  · simp [ac_cmp_Compare_int64, h1, h2, c1]
  · by_cases c2 : y < x
    · simp [ac_cmp_Compare_int64, h1, h2, c1, c2]
    · simp [ac_cmp_Compare_int64, h1, h2, c1, c2]
theorem ev_Or (x y : Int) : ev fns i_cmp_Or_int [lst 1 [x, y]] [] = some (i64 (if x ≠ 0 then x else y), []) := by
  refine go_cmp_Or_int (by simp) ?_
  have w1 : IntKind.i64.wrap 1 = 1 := by decide
  have w2 : IntKind.i64.wrap 2 = 2 := by decide
  simp [ac_cmp_Or_int]
  rw [l_cmp_Or_int_0]
  by_cases c1 : x = 0
  · subst c1
    simp [lb_cmp_Or_int_0, w1]
    rw [l_cmp_Or_int_0]
    by_cases c2 : y = 0
    · subst c2
      simp [lb_cmp_Or_int_0, w1, w2]
      rw [l_cmp_Or_int_0]
      simp [lb_cmp_Or_int_0]
    · simp [lb_cmp_Or_int_0, c2]
  · simp [lb_cmp_Or_int_0, c1]
theorem ev_comparePushes (a b : GPush) : ev fns i_impl_comparePushes [a.v, b.v] [] = some (i64 (cmpP a b), []) := by
  have h1 := ev_Compare a.to b.to
  have h2 := ev_Compare a.put b.put
  have h3 := ev_Or (cmpI a.to b.to) (cmpI a.put b.put)
  refine go_impl_comparePushes (by simp) ?_
  unfold cmpP
  simp at h1 h2 h3
  simp [ac_impl_comparePushes, h1, h2, h3, dfr, mapO]
  done
set_option maxHeartbeats 8000000 in
theorem ev_spec_l03Pushes (n st : Int) (hn : 0 ≤ n ∧ n ≤ 1048576) (hst : 0 ≤ st ∧ st ≤ 1048576) (l : List GPush) (hl : l.length ≤ 1048576) : ev fns i_spec_l03Pushes [lst 2 l, i64 n, i64 st] [] = some (bol (okPus n st l), []) := by
  have w1 := wrap_i64 (n := n - 1) (by omega)
  have w3 := wrap_i64 (n := st - 1) (by omega)
  have lo := fun ks => loop_below (F := fun i => rE fns fa_spec_l03Pushes 0 (.code lo_spec_l03Pushes_0 :: .inBlock 0 :: ks) [(7, i64 (i : Nat)), (2, i64 st), (1, i64 n), (0, lst 2 l)] [])
    (n := l.length) (p := puAt n st l) (e := rE fns fa_spec_l03Pushes 0 ks [] []) (r := some (bol false, [])) (fun i hi => by
      have hw := wrap_i64 (n := i + 1) (by omega)
      rw [l_spec_l03Pushes_0]
      unfold puAt
      rw [getD_at' hi]
      cases c1 : inR l[i].to 0 (n - 1)
      · refine ⟨fun h => by simp at h, fun _ => ?_⟩
        simp [lb_spec_l03Pushes_0, hi, w1, w3, c1, nvRow, PV.bels, setCells]
        done
      cases c2 : inR l[i].put 0 (st - 1)
      · refine ⟨fun h => by simp at h, fun _ => ?_⟩
        simp [lb_spec_l03Pushes_0, hi, w1, w3, c1, c2, nvRow, PV.bels, setCells]
        done
      cases i with
      | zero =>
        refine ⟨fun _ => ?_, fun h => by simp at h⟩
        simp [lb_spec_l03Pushes_0, hi, w1, w3, c1, c2, show IntKind.i64.wrap 1 = 1 by decide, nvRow, PV.bels, setCells]
        done
      | succ j =>
        have hj : j < l.length := by omega
        have e0 : (0 : Int) ≤ (j : Int) + 1 := by omega
        have e1 : ((j + 1 : Nat) : Int) - 1 = j := by omega
        have e2 : (0 : Int) < (j : Int) + 1 := by omega
        have e3 : ((j : Int) + 1) - 1 = j := by omega
        have e5 : ((j : Int) + 1).toNat = j + 1 := by omega
        have w2 := wrap_i64 (n := j) (by omega)
        have hlt : (j : Int) + 1 < l.length := by omega
        rw [show j + 1 - 1 = j by omega, getD_at' hj]
        simp only [Int.natCast_add, Int.cast_ofNat_Int] at hw
        unfold pLt
        by_cases d1 : l[j + 1].to < l[j].to
        · refine ⟨fun h => by simp [show ¬ l[j].to < l[j + 1].to by omega, show ¬ l[j].to = l[j + 1].to by omega] at h, fun _ => ?_⟩
          simp [lb_spec_l03Pushes_0, hi, hj, hlt, w1, w2, w3, c1, c2, d1, e0, e1, e2, e3, e5, hw, nvRow, PV.bels, setCells]
          done
        · by_cases d2 : l[j].to = l[j + 1].to
          · by_cases d3 : l[j].put < l[j + 1].put
            · refine ⟨fun _ => ?_, fun h => by simp [d2, d3] at h⟩
              simp [lb_spec_l03Pushes_0, hi, hj, hlt, w1, w2, w3, c1, c2, d1, d2, e0, e1, e2, e3, e5, hw, show ¬ l[j + 1].put ≤ l[j].put by omega, nvRow, PV.bels, setCells]
              done
            · refine ⟨fun h => by simp [d2, d3] at h, fun _ => ?_⟩
              simp [lb_spec_l03Pushes_0, hi, hj, hlt, w1, w2, w3, c1, c2, d1, d2, e0, e1, e2, e3, e5, hw, show l[j + 1].put ≤ l[j].put by omega, nvRow, PV.bels, setCells]
              done
          · refine ⟨fun _ => ?_, fun h => by simp [show l[j].to < l[j + 1].to by omega] at h⟩
            simp [lb_spec_l03Pushes_0, hi, hj, hlt, w1, w2, w3, c1, c2, d1, d2, e0, e1, e2, e3, e5, hw, nvRow, PV.bels, setCells]
            done)
    (by
      rw [l_spec_l03Pushes_0]
      simp [lb_spec_l03Pushes_0])
  refine go_spec_l03Pushes (by simp) ?_
  unfold okPus
  cases c : (List.range l.length).all (puAt n st l)
  · rw [c] at lo
    simp at lo
    simp [ac_spec_l03Pushes, lo]
  · rw [c] at lo
    simp at lo
    simp [ac_spec_l03Pushes, lo]
end Go.Proofs.Ytlolldjkahkbfaa
