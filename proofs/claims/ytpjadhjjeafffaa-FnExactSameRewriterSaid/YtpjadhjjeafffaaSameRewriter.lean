/- Equality of rewriters: the program's and the reference's; the law FnExactSameRewriter, run. -/
import Derived.Test.YtpjadhjjeafffaaSls
set_option linter.unusedVariables false
set_option linter.unusedSimpArgs false
set_option maxRecDepth 100000
namespace Go.Proofs.Ytpjadhjjeafffaa
open Aw

theorem ev_SameRewriter_1 (a b : List (List GOutMove)) (ha : Siz.size a ≤ 1048576) : ev fns i_impl_SameRewriter_1 [lst 1 a, lst 1 b] [] = some (bol (decide (a = b)), []) := by
  refine go_impl_SameRewriter_1 (by simp) ?_
  have hl := Siz.len_le a
  have h := ev_EqualFunc_OutMoveS a b i_slices_Equal_L_impl_OutMove (by omega) (fun x hx y σ => by
    have h1 := Siz.mem_le hx
    have h2 := Siz.len_le x
    have := ev_Equal_OutMove x y (by omega)
    simp at this
    simp [this])
  simp at h
  simp [ac_impl_SameRewriter_1, h]
theorem ev_impl_SameRewriter (a b : GRewriter) (ha : Siz.size a ≤ 1048576) : ev fns i_impl_SameRewriter [a.v, b.v] [] = some (bol (decide (a = b)), []) := by
  refine go_impl_SameRewriter (by simp) ?_
  rw [size_Rewriter] at ha
  have l1 := Siz.len_le a.call
  have l2 := Siz.len_le a.ret
  have h1 := ev_EqualFunc_OutPushS a.call b.call i_slices_Equal_L_impl_OutPush (by omega) (fun x hx y σ => by
    have h1 := Siz.mem_le hx
    have h2 := Siz.len_le x
    have := ev_Equal_OutPush x y (by omega)
    simp at this
    simp [this])
  have h2 := ev_EqualFunc_OutMoveSS a.ret b.ret i_impl_SameRewriter_1 (by omega) (fun x hx y σ => by
    have h1 := Siz.mem_le hx
    have := ev_SameRewriter_1 x y (by omega)
    simp at this
    simp [this])
  have h3 := ev_SameRewriter_1 a.inner b.inner (by omega)
  simp at h1 h2 h3
  simp only [GRewriter.eq_iff]
  by_cases c1 : a.stack = b.stack
  · by_cases c2 : a.start = b.start
    · by_cases c3 : a.call = b.call
      · by_cases c4 : a.ret = b.ret
        · simp [c3] at h1; simp [c4] at h2
          simp [ac_impl_SameRewriter, c1, c2, c3, c4, h1, h2, h3]
        · simp [c3] at h1; simp [c4] at h2
          simp [ac_impl_SameRewriter, c1, c2, c3, c4, h1, h2]
      · simp [c3] at h1
        simp [ac_impl_SameRewriter, c1, c2, c3, h1]
    · simp [ac_impl_SameRewriter, c1, c2]
  · simp [ac_impl_SameRewriter, c1]

@[simp] theorem ev_spec_l06SameMoves (a b : List GOutMove) (ha : a.length ≤ 1048576) : ev fns i_spec_l06SameMoves [lst 2 a, lst 2 b] [] = some (bol (decide (a = b)), []) := by
  refine go_spec_l06SameMoves (by simp) ?_
  by_cases hr : a.length = b.length
  · have lo := fun ks => loop_eq (F := fun k => rE fns fa_spec_l06SameMoves 0 (.code lo_spec_l06SameMoves_0 :: .inBlock 0 :: ks) [(5, i64 k), (1, lst 2 b), (0, lst 2 a)] []) hr
      (e := rE fns fa_spec_l06SameMoves 0 ks [] []) (r := some (bol false, []))
      (fun k h h' => by
        have hw := wrap_i64 (n := k + 1) (by omega)
        rw [l_spec_l06SameMoves_0, Ne, GOutMove.eq_iff]
        refine ⟨fun c => ?_, fun c => ?_⟩ <;> simp [lb_spec_l06SameMoves_0, h, h', hw, c])
      (by rw [l_spec_l06SameMoves_0]; simp [lb_spec_l06SameMoves_0])
    simp at lo
    by_cases c : a = b
    · simpa [ac_spec_l06SameMoves, ← hr, (lo _).1 c] using c
    · simp [ac_spec_l06SameMoves, ← hr, (lo _).2 c, c]
  · have c : a ≠ b := fun e => hr (by rw [e])
    simp [ac_spec_l06SameMoves, c, hr]

@[simp] abbrev RwP (a : GRewriter) : PV := .fptr [i64 a.stack, i64 a.start, lst 1 a.call, lst 1 a.ret, lst 1 a.inner] 0
theorem lo_SR_0 (a b : GRewriter) (ha : Siz.size a ≤ 1048576) (m : Nat) (h : m < a.call.length) (h' : m < b.call.length) (hl : a.call[m].length = b.call[m].length) (ks : List KI) :
    (a.call[m] = b.call[m] → rE fns fa_spec_SameRewriter 0 (.code lo_spec_SameRewriter_0 :: .inBlock 2 :: ks) [(6, i64 0), (5, i64 m), (3, RwP b), (2, RwP a)] [] = rE fns fa_spec_SameRewriter 0 ks [(5, i64 m), (3, RwP b), (2, RwP a)] []) ∧
    (a.call[m] ≠ b.call[m] → rE fns fa_spec_SameRewriter 0 (.code lo_spec_SameRewriter_0 :: .inBlock 2 :: ks) [(6, i64 0), (5, i64 m), (3, RwP b), (2, RwP a)] [] = some (bol false, [])) := by
  rw [size_Rewriter] at ha
  have h1 := Siz.mem_le (List.getElem_mem h)
  have h2 := Siz.len_le a.call[m]
  exact loop_eq (F := fun k => rE fns fa_spec_SameRewriter 0 (.code lo_spec_SameRewriter_0 :: .inBlock 2 :: ks) [(6, i64 k), (5, i64 m), (3, RwP b), (2, RwP a)] []) hl
    (fun k h1 h2 => by
      have hw := wrap_i64 (n := k + 1) (by omega)
      rw [l_spec_SameRewriter_0, Ne, GOutPush.eq_iff]
      refine ⟨fun c => ?_, fun c => ?_⟩ <;> simp [lb_spec_SameRewriter_0, h, h', h1, h2, hw, c])
    (by rw [l_spec_SameRewriter_0]; simp [lb_spec_SameRewriter_0, h, h'])
theorem lo_SR_1 (a b : GRewriter) (ha : Siz.size a ≤ 1048576) (hr : a.call.length = b.call.length) (ks : List KI) :
    (a.call = b.call → rE fns fa_spec_SameRewriter 0 (.code lo_spec_SameRewriter_1 :: .inBlock 0 :: ks) [(5, i64 0), (3, RwP b), (2, RwP a)] [] = rE fns fa_spec_SameRewriter 0 ks [(3, RwP b), (2, RwP a)] []) ∧
    (a.call ≠ b.call → rE fns fa_spec_SameRewriter 0 (.code lo_spec_SameRewriter_1 :: .inBlock 0 :: ks) [(5, i64 0), (3, RwP b), (2, RwP a)] [] = some (bol false, [])) := by
  have ha' := ha
  rw [size_Rewriter] at ha'
  have hl := Siz.len_le a.call
  exact loop_eq (F := fun k => rE fns fa_spec_SameRewriter 0 (.code lo_spec_SameRewriter_1 :: .inBlock 0 :: ks) [(5, i64 k), (3, RwP b), (2, RwP a)] []) hr
    (fun k h h' => by
      have hw := wrap_i64 (n := k + 1) (by omega)
      rw [l_spec_SameRewriter_1]
      by_cases c2 : a.call[k].length = b.call[k].length
      · have q := lo_SR_0 a b ha k h h' c2
        simp at q
        refine ⟨fun c3 => ?_, fun c3 => ?_⟩
        · have q := fun ks => (q ks).1 c3
          simp [lb_spec_SameRewriter_1, h, h', hw, c2, q]
        · have q := fun ks => (q ks).2 c3
          simp [lb_spec_SameRewriter_1, h, h', hw, c2, q]
      · have c3 : a.call[k] ≠ b.call[k] := fun e => c2 (by rw [e])
        refine ⟨fun e => absurd e c3, fun _ => ?_⟩
        simp [lb_spec_SameRewriter_1, h, h', hw, c2])
    (by rw [l_spec_SameRewriter_1]; simp [lb_spec_SameRewriter_1])
theorem lo_SR_2 (a b : GRewriter) (ha : Siz.size a ≤ 1048576) (m : Nat) (h : m < a.ret.length) (h' : m < b.ret.length) (hl : a.ret[m].length = b.ret[m].length) (ks : List KI) :
    (a.ret[m] = b.ret[m] → rE fns fa_spec_SameRewriter 0 (.code lo_spec_SameRewriter_2 :: .inBlock 6 :: ks) [(8, i64 0), (7, i64 m), (3, RwP b), (2, RwP a)] [] = rE fns fa_spec_SameRewriter 0 ks [(7, i64 m), (3, RwP b), (2, RwP a)] []) ∧
    (a.ret[m] ≠ b.ret[m] → rE fns fa_spec_SameRewriter 0 (.code lo_spec_SameRewriter_2 :: .inBlock 6 :: ks) [(8, i64 0), (7, i64 m), (3, RwP b), (2, RwP a)] [] = some (bol false, [])) := by
  rw [size_Rewriter] at ha
  have h1 := Siz.mem_le (List.getElem_mem h)
  have h2 := Siz.len_le a.ret[m]
  exact loop_eq (F := fun k => rE fns fa_spec_SameRewriter 0 (.code lo_spec_SameRewriter_2 :: .inBlock 6 :: ks) [(8, i64 k), (7, i64 m), (3, RwP b), (2, RwP a)] []) hl
    (fun k h3 h4 => by
      have hw := wrap_i64 (n := k + 1) (by omega)
      have h5 := Siz.mem_le (List.getElem_mem h3)
      have h6 := Siz.len_le a.ret[m][k]
      have hc := ev_spec_l06SameMoves a.ret[m][k] b.ret[m][k] (by omega)
      rw [l_spec_SameRewriter_2, Ne]
      refine ⟨fun c => ?_, fun c => ?_⟩
      · simp [c] at hc; simp [lb_spec_SameRewriter_2, h, h', h3, h4, hw, c, hc]
      · simp [c] at hc; simp [lb_spec_SameRewriter_2, h, h', h3, h4, hw, c, hc])
    (by rw [l_spec_SameRewriter_2]; simp [lb_spec_SameRewriter_2, h, h'])
theorem lo_SR_3 (a b : GRewriter) (ha : Siz.size a ≤ 1048576) (hr : a.ret.length = b.ret.length) (ks : List KI) :
    (a.ret = b.ret → rE fns fa_spec_SameRewriter 0 (.code lo_spec_SameRewriter_3 :: .inBlock 4 :: ks) [(7, i64 0), (3, RwP b), (2, RwP a)] [] = rE fns fa_spec_SameRewriter 0 ks [(3, RwP b), (2, RwP a)] []) ∧
    (a.ret ≠ b.ret → rE fns fa_spec_SameRewriter 0 (.code lo_spec_SameRewriter_3 :: .inBlock 4 :: ks) [(7, i64 0), (3, RwP b), (2, RwP a)] [] = some (bol false, [])) := by
  have ha' := ha
  rw [size_Rewriter] at ha'
  have hl := Siz.len_le a.ret
  exact loop_eq (F := fun k => rE fns fa_spec_SameRewriter 0 (.code lo_spec_SameRewriter_3 :: .inBlock 4 :: ks) [(7, i64 k), (3, RwP b), (2, RwP a)] []) hr
    (fun k h h' => by
      have hw := wrap_i64 (n := k + 1) (by omega)
      rw [l_spec_SameRewriter_3]
      by_cases c2 : a.ret[k].length = b.ret[k].length
      · have q := lo_SR_2 a b ha k h h' c2
        simp at q
        refine ⟨fun c3 => ?_, fun c3 => ?_⟩
        · have q := fun ks => (q ks).1 c3
          simp [lb_spec_SameRewriter_3, h, h', hw, c2, q]
        · have q := fun ks => (q ks).2 c3
          simp [lb_spec_SameRewriter_3, h, h', hw, c2, q]
      · have c3 : a.ret[k] ≠ b.ret[k] := fun e => c2 (by rw [e])
        refine ⟨fun e => absurd e c3, fun _ => ?_⟩
        simp [lb_spec_SameRewriter_3, h, h', hw, c2])
    (by rw [l_spec_SameRewriter_3]; simp [lb_spec_SameRewriter_3])
theorem lo_SR_4 (a b : GRewriter) (ha : Siz.size a ≤ 1048576) (hr : a.inner.length = b.inner.length) (ks : List KI) :
    (a.inner = b.inner → rE fns fa_spec_SameRewriter 0 (.code lo_spec_SameRewriter_4 :: .inBlock 8 :: ks) [(9, i64 0), (3, RwP b), (2, RwP a)] [] = rE fns fa_spec_SameRewriter 0 ks [] []) ∧
    (a.inner ≠ b.inner → rE fns fa_spec_SameRewriter 0 (.code lo_spec_SameRewriter_4 :: .inBlock 8 :: ks) [(9, i64 0), (3, RwP b), (2, RwP a)] [] = some (bol false, [])) := by
  rw [size_Rewriter] at ha
  have hl := Siz.len_le a.inner
  exact loop_eq (F := fun k => rE fns fa_spec_SameRewriter 0 (.code lo_spec_SameRewriter_4 :: .inBlock 8 :: ks) [(9, i64 k), (3, RwP b), (2, RwP a)] []) hr
    (fun k h h' => by
      have hw := wrap_i64 (n := k + 1) (by omega)
      have h5 := Siz.mem_le (List.getElem_mem h)
      have h6 := Siz.len_le a.inner[k]
      have hc := ev_spec_l06SameMoves a.inner[k] b.inner[k] (by omega)
      rw [l_spec_SameRewriter_4, Ne]
      refine ⟨fun c => ?_, fun c => ?_⟩
      · simp [c] at hc; simp [lb_spec_SameRewriter_4, h, h', hw, c, hc]
      · simp [c] at hc; simp [lb_spec_SameRewriter_4, h, h', hw, c, hc])
    (by rw [l_spec_SameRewriter_4]; simp [lb_spec_SameRewriter_4])
theorem ev_spec_SameRewriter (a b : GRewriter) (ha : Siz.size a ≤ 1048576) : ev fns i_spec_SameRewriter [a.v, b.v] [] = some (bol (decide (a = b)), []) := by
  refine go_spec_SameRewriter (by simp) ?_
  simp only [GRewriter.eq_iff]
  by_cases c1 : a.stack = b.stack
  · by_cases c2 : a.start = b.start
    · by_cases l3 : a.call.length = b.call.length
      · by_cases l4 : a.ret.length = b.ret.length
        · by_cases l5 : a.inner.length = b.inner.length
          · have q1 := lo_SR_1 a b ha l3
            have q3 := lo_SR_3 a b ha l4
            have q4 := lo_SR_4 a b ha l5
            simp at q1 q3 q4
            by_cases c3 : a.call = b.call
            · have q1 := fun ks => (q1 ks).1 c3
              by_cases c4 : a.ret = b.ret
              · have q3 := fun ks => (q3 ks).1 c4
                by_cases c5 : a.inner = b.inner
                · have q4 := fun ks => (q4 ks).1 c5
                  simp [ac_spec_SameRewriter, eq_true c1, eq_true c2, eq_true l3, eq_true l4, eq_true l5, q1, q3, q4, eq_true c3, eq_true c4, eq_true c5]
                · have q4 := fun ks => (q4 ks).2 c5
                  simp [ac_spec_SameRewriter, eq_true c1, eq_true c2, eq_true l3, eq_true l4, eq_true l5, q1, q3, q4, eq_true c3, eq_true c4, c5]
              · have q3 := fun ks => (q3 ks).2 c4
                simp [ac_spec_SameRewriter, eq_true c1, eq_true c2, eq_true l3, eq_true l4, eq_true l5, q1, q3, eq_true c3, c4]
            · have q1 := fun ks => (q1 ks).2 c3
              simp [ac_spec_SameRewriter, eq_true c1, eq_true c2, eq_true l3, eq_true l4, eq_true l5, q1, c3]
          · have c5 : a.inner ≠ b.inner := fun e => l5 (by rw [e])
            simp [ac_spec_SameRewriter, eq_true c1, eq_true c2, eq_true l3, eq_true l4, l5, c5]
        · have c4 : a.ret ≠ b.ret := fun e => l4 (by rw [e])
          simp [ac_spec_SameRewriter, eq_true c1, eq_true c2, eq_true l3, l4, c4]
      · have c3 : a.call ≠ b.call := fun e => l3 (by rw [e])
        simp [ac_spec_SameRewriter, eq_true c1, eq_true c2, l3, c3]
    · simp [ac_spec_SameRewriter, eq_true c1, c2]
  · simp [ac_spec_SameRewriter, c1]

theorem ev_FnExactSameRewriter (a b : GRewriter) (fa : Siz.fits a) (fb : Siz.fits b) : ev fns i_laws_FnExactSameRewriter [a.v, b.v] [] = some (bol true, []) := by
  refine go_laws_FnExactSameRewriter (by simp) ?_
  have e1 := ev_laws_szRewriter a 1048576 (by omega) (by omega) fa
  by_cases c1 : (Siz.size a : Int) ≤ 1048576
  · rw [szR_ok c1] at e1
    have e2 := ev_laws_szRewriter b (1048576 - Siz.size a) (by omega) (by omega) fb
    by_cases c2 : (Siz.size b : Int) ≤ 1048576 - Siz.size a
    · rw [szR_ok c2] at e2
      have h1 := ev_laws_toRewriter a (by omega)
      have h2 := ev_laws_toRewriter b (by omega)
      have h3 := ev_spec_SameRewriter a b (by omega)
      have h4 := ev_impl_SameRewriter a b (by omega)
      have h5 := ev_laws_eqRewriter a a (by omega)
      have h6 := ev_laws_eqRewriter b b (by omega)
      simp [ac_laws_FnExactSameRewriter, e1, e2, show ¬ ((1048576 : Int) - Siz.size a < 0) by omega, show ¬ ((1048576 : Int) - Siz.size a - Siz.size b < 0) by omega, h1, h2, h3, h4, h5, h6]
    · rw [szR_no (by omega)] at e2
      simp [ac_laws_FnExactSameRewriter, e1, e2, show ¬ ((1048576 : Int) - Siz.size a < 0) by omega]
  · rw [szR_no (by omega)] at e1
    simp [ac_laws_FnExactSameRewriter, e1]
end Go.Proofs.Ytpjadhjjeafffaa
