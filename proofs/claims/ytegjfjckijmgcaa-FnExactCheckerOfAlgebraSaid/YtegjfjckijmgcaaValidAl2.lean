/- Algebras that are valid: the reference. -/
import Derived.Test.YtegjfjckijmgcaaValidAl
import Derived.Test.YtegjfjckijmgcaaLoops2
import Derived.Test.YtegjfjckijmgcaaSls
set_option linter.unusedVariables false
set_option linter.unusedSimpArgs false
set_option maxRecDepth 100000
namespace Go.Proofs.Ytegjfjckijmgcaa
open Aw
/-! ### The reference's -/
theorem all_and {α : Type} (p q : α → Bool) : ∀ l : List α, (l.all fun x => p x && q x) = (l.all p && l.all q)
  | [] => rfl
  | x :: l => by simp only [List.all_cons, all_and p q l]; cases p x <;> cases q x <;> simp
set_option maxHeartbeats 4000000 in
theorem lo_l04_2 {a : GAlgebra} (ha : AlL a) (i k : Nat) (hi : i < a.accept.length) (hk : k < a.accept.length) (ks : List KI) :
    rE fns fa_spec_l04Ok 0 (.code lo_spec_l04Ok_2 :: .inBlock 8 :: ks) [(8, i64 0), (7, i64 k), (6, i64 i), (3, i64 a.accept.length), (0, AgP a)] [] =
      if ((List.range a.accept.length).all fun j => asOk a i k j) = true then rE fns fa_spec_l04Ok 0 ks [(7, i64 k), (6, i64 i), (3, i64 a.accept.length), (0, AgP a)] [] else some (bol false, []) := by
  have hn := ha.n
  have key := loop_below (F := fun j => rE fns fa_spec_l04Ok 0 (.code lo_spec_l04Ok_2 :: .inBlock 8 :: ks) [(8, i64 (j : Nat)), (7, i64 k), (6, i64 i), (3, i64 a.accept.length), (0, AgP a)] [])
    (n := a.accept.length) (p := fun j => asOk a i k j) (e := rE fns fa_spec_l04Ok 0 ks [(7, i64 k), (6, i64 i), (3, i64 a.accept.length), (0, AgP a)] []) (r := some (bol false, [])) (fun j hj => by
      have hv := ha.val
      have hr := ha.row
      have hw := wrap_i64 (n := j + 1) (by omega)
      have q1 := ha.lt i k hi hk
      have q2 := ha.lt k j hk hj
      rw [asOk_iff ha hi hk hj, l_spec_l04Ok_2]
      by_cases c : gN a (gN a i k) j = gN a i (gN a k j)
      · refine ⟨fun _ => ?_, fun h => by simp [c] at h⟩
        simp [lb_spec_l04Ok_2, hj, hi, hk, ha.pl, hr, hv, q1, q2, c, hw]
      · refine ⟨fun h => by simp [c] at h, fun _ => ?_⟩
        simp [lb_spec_l04Ok_2, hj, hi, hk, ha.pl, hr, hv, q1, q2, c])
    (by
      rw [l_spec_l04Ok_2]
      simp [lb_spec_l04Ok_2])
  simpa using key
set_option maxHeartbeats 4000000 in
theorem lo_l04_3 {a : GAlgebra} (ha : AlL a) (i : Nat) (hi : i < a.accept.length) (ks : List KI) :
    rE fns fa_spec_l04Ok 0 (.code lo_spec_l04Ok_3 :: .inBlock 6 :: ks) [(7, i64 0), (6, i64 i), (3, i64 a.accept.length), (0, AgP a)] [] =
      if asI a i = true then rE fns fa_spec_l04Ok 0 ks [(6, i64 i), (3, i64 a.accept.length), (0, AgP a)] [] else some (bol false, []) := by
  have hn := ha.n
  have key := loop_below (F := fun k => rE fns fa_spec_l04Ok 0 (.code lo_spec_l04Ok_3 :: .inBlock 6 :: ks) [(7, i64 (k : Nat)), (6, i64 i), (3, i64 a.accept.length), (0, AgP a)] [])
    (n := a.accept.length) (p := fun k => (List.range a.accept.length).all fun j => asOk a i k j) (e := rE fns fa_spec_l04Ok 0 ks [(6, i64 i), (3, i64 a.accept.length), (0, AgP a)] []) (r := some (bol false, [])) (fun k hk => by
      have hw := wrap_i64 (n := k + 1) (by omega)
      have lo := fun ks => lo_l04_2 ha i k hi hk ks
      rw [l_spec_l04Ok_3]
      cases c : (List.range a.accept.length).all fun j => asOk a i k j
      · rw [c] at lo
        simp at lo
        refine ⟨fun h => by simp at h, fun _ => ?_⟩
        simp [lb_spec_l04Ok_3, hk, lo]
      · rw [c] at lo
        simp at lo
        refine ⟨fun _ => ?_, fun h => by simp at h⟩
        simp [lb_spec_l04Ok_3, hk, lo, hw])
    (by
      rw [l_spec_l04Ok_3]
      simp [lb_spec_l04Ok_3])
  simpa [asI] using key
set_option maxHeartbeats 8000000 in
theorem ev_spec_l04Ok (a : GAlgebra) (hz : Siz.size a ≤ 1048576) : ev fns i_spec_l04Ok [AgP a] [] = some (bol (okAl a), []) := by
  rw [size_Algebra] at hz
  have hli := Siz.len_le a.inner
  have hla := Siz.len_le a.accept
  have hlp := Siz.len_le a.product
  refine go_spec_l04Ok (by simp) ?_
  cases c1 : inR a.accept.length 1 40
  · simp [ac_spec_l04Ok, c1, okAl, lsOk]
  have c1' := c1
  simp only [inR, Bool.and_eq_true, decide_eq_true_eq] at c1'
  by_cases c2 : ¬ a.product.length = a.accept.length
  · simp [ac_spec_l04Ok, c1, show ¬ ((a.product.length : Int) = a.accept.length) by omega, okAl, lsOk, c2]
  replace c2 := Classical.not_not.1 c2
  by_cases c3 : ¬ a.wrap.length = 4
  · simp [ac_spec_l04Ok, c1, c2, show ¬ ((a.wrap.length : Int) = 4) by omega, okAl, lsOk, c3]
  replace c3 := Classical.not_not.1 c3
  have hvi := ev_spec_l02List a.inner a.accept.length 2 (by omega) (by omega)
  cases c4 : okSts a.accept.length 2 a.inner
  · rw [c4] at hvi
    simp at hvi
    simp [ac_spec_l04Ok, c1, c2, c3, hvi, okAl, lsOk, c4]
  rw [c4] at hvi
  have lo0 := fun ks => loop_forall (F := fun k => rE fns fa_spec_l04Ok 0 (.code lo_spec_l04Ok_0 :: .inBlock 0 :: ks) [(4, i64 (k : Nat)), (3, i64 a.accept.length), (0, AgP a)] [])
    (a := a.product) (p := okSts a.accept.length a.accept.length) (e := rE fns fa_spec_l04Ok 0 ks [(3, i64 a.accept.length), (0, AgP a)] []) (r := some (bol false, [])) (fun k h => by
      have hr := ev_spec_l02List a.product[k] a.accept.length a.accept.length (by omega) (by have := Siz.mem_le (List.getElem_mem h); have := Siz.len_le a.product[k]; omega)
      have hw := wrap_i64 (n := k + 1) (by omega)
      rw [l_spec_l04Ok_0]
      simp at hr
      cases c : okSts a.accept.length a.accept.length a.product[k]
      · rw [c] at hr
        refine ⟨fun h => by simp at h, fun _ => ?_⟩
        simp [lb_spec_l04Ok_0, ← c2, h] at hr ⊢
        simp [hr]
      · rw [c] at hr
        refine ⟨fun _ => ?_, fun h => by simp at h⟩
        simp [lb_spec_l04Ok_0, ← c2, h, hw] at hr ⊢
        simp [hr, hw])
    (by
      rw [l_spec_l04Ok_0]
      simp [lb_spec_l04Ok_0, c2])
  have lo1 := fun ks => loop_forall (F := fun k => rE fns fa_spec_l04Ok 0 (.code lo_spec_l04Ok_1 :: .inBlock 2 :: ks) [(5, i64 (k : Nat)), (3, i64 a.accept.length), (0, AgP a)] [])
    (a := a.wrap) (p := okSts a.accept.length a.accept.length) (e := rE fns fa_spec_l04Ok 0 ks [(3, i64 a.accept.length), (0, AgP a)] []) (r := some (bol false, [])) (fun k h => by
      have hr := ev_spec_l02List a.wrap[k] a.accept.length a.accept.length (by omega) (by have := Siz.mem_le (List.getElem_mem h); have := Siz.len_le a.wrap[k]; omega)
      have hw := wrap_i64 (n := k + 1) (by omega)
      have h4 : (k : Int) < 4 := by omega
      rw [l_spec_l04Ok_1]
      simp at hr
      cases c : okSts a.accept.length a.accept.length a.wrap[k]
      · rw [c] at hr
        refine ⟨fun h => by simp at h, fun _ => ?_⟩
        simp [lb_spec_l04Ok_1, h, h4, hr]
      · rw [c] at hr
        refine ⟨fun _ => ?_, fun h => by simp at h⟩
        simp [lb_spec_l04Ok_1, h, h4, hr, hw])
    (by
      rw [l_spec_l04Ok_1]
      simp [lb_spec_l04Ok_1, c3])
  simp at hvi
  cases c5 : a.product.all (okSts a.accept.length a.accept.length)
  · rw [c5] at lo0
    simp at lo0
    simp [ac_spec_l04Ok, c1, c2, c3, hvi, lo0, okAl, lsOk, c5]
  cases c6 : a.wrap.all (okSts a.accept.length a.accept.length)
  · rw [c5] at lo0
    rw [c6] at lo1
    simp at lo0 lo1
    simp [ac_spec_l04Ok, c1, c2, c3, hvi, lo0, lo1, okAl, lsOk, c6]
  have hls : lsOk a = true := by
    unfold lsOk
    simp [c1, c2, c3, c4, c5, c6]
  have ha := lsOk_al hls
  have lo4 := fun ks => loop_below (F := fun i => rE fns fa_spec_l04Ok 0 (.code lo_spec_l04Ok_4 :: .inBlock 4 :: ks) [(6, i64 (i : Nat)), (3, i64 a.accept.length), (0, AgP a)] [])
    (n := a.accept.length) (p := fun i => unitOk a i && asI a i) (e := rE fns fa_spec_l04Ok 0 ks [] []) (r := some (bol false, [])) (fun i hi => by
      have hw := wrap_i64 (n := i + 1) (by omega)
      have hv := ha.val
      have hr := ha.row
      have h0 : 0 < a.accept.length := by omega
      have lo := fun ks => lo_l04_3 ha i hi ks
      rw [unitOk_iff ha hi, l_spec_l04Ok_4]
      by_cases u1 : gN a 0 i = i
      · by_cases u2 : gN a i 0 = i
        · cases c : asI a i
          · rw [c] at lo
            simp at lo
            refine ⟨fun h => by simp at h, fun _ => ?_⟩
            simp [lb_spec_l04Ok_4, hi, ha.pl, hr, hv, h0, u1, u2, lo]
          · rw [c] at lo
            simp at lo
            refine ⟨fun _ => ?_, fun h => by simp [u1, u2] at h⟩
            simp [lb_spec_l04Ok_4, hi, ha.pl, hr, hv, h0, u1, u2, lo, hw]
        · refine ⟨fun h => by simp [u2] at h, fun _ => ?_⟩
          simp [lb_spec_l04Ok_4, hi, ha.pl, hr, hv, h0, u1, u2]
      · refine ⟨fun h => by simp [u1] at h, fun _ => ?_⟩
        simp [lb_spec_l04Ok_4, hi, ha.pl, hr, hv, h0, u1])
    (by
      rw [l_spec_l04Ok_4]
      simp [lb_spec_l04Ok_4])
  rw [c5] at lo0
  rw [c6] at lo1
  rw [all_and] at lo4
  unfold okAl
  rw [hls, Bool.true_and]
  cases c7 : (List.range a.accept.length).all (unitOk a) && (List.range a.accept.length).all (asI a)
  · rw [c7] at lo4
    simp at lo0 lo1 lo4
    simp [ac_spec_l04Ok, c1, c2, c3, hvi, lo0, lo1, lo4]
  · rw [c7] at lo4
    simp at lo0 lo1 lo4
    simp [ac_spec_l04Ok, c1, c2, c3, hvi, lo0, lo1, lo4]
end Go.Proofs.Ytegjfjckijmgcaa
