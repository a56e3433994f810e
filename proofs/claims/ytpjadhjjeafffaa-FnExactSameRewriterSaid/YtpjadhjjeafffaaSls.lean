/- What package slices' functions do, over typed data; printed by a program (sl.py). -/
import Derived.Test.YtpjadhjjeafffaaDat
import Derived.Test.YtpjadhjjeafffaaLoops
set_option linter.unusedVariables false
set_option linter.unusedSimpArgs false
set_option maxRecDepth 100000
namespace Go.Proofs.Ytpjadhjjeafffaa
open Aw

/-- slices.IndexFunc. -/
theorem ev_IndexFunc_Link (a : List GLink) (f : FuncId) (caps : List PV) (p : GLink → Bool) (ha : a.length ≤ 9223372036854775806) (hp : ∀ x ∈ a, callM fns (ev fns) f (Enc.pv x :: caps) [] = some (.val (.bool (p x)), [])) :
    ev fns i_slices_IndexFunc_L_impl_Link [lst 4 a, .fn f caps] [] = some (i64 (ixOf p a), []) := by
  refine go_slices_IndexFunc_L_impl_Link (by simp) ?_
  have lo := fun ks => loop_ix (F := fun k => rE fns fa_slices_IndexFunc_L_impl_Link 0 (.code lo_slices_IndexFunc_L_impl_Link_0 :: .inBlock 0 :: ks) [(8, i64 k), (7, i64 a.length), (1, .fn f caps), (0, lst 4 a)] []) (a := a) (p := p)
    (e := rE fns fa_slices_IndexFunc_L_impl_Link 0 ks [] []) (r := fun i => some (i64 i, []))
    (fun k h => by
      have hw := wrap_i64 (n := k + 1) (by omega)
      have hc := hp _ (List.getElem_mem h)
      simp at hc
      rw [l_slices_IndexFunc_L_impl_Link_0]
      refine ⟨fun c => ?_, fun c => ?_⟩ <;> simp [lb_slices_IndexFunc_L_impl_Link_0, h, hw, hc, c])
    (by rw [l_slices_IndexFunc_L_impl_Link_0]; simp [lb_slices_IndexFunc_L_impl_Link_0])
  simp at lo
  simp [ac_slices_IndexFunc_L_impl_Link, lo]
  unfold ixOf
  cases firstIx p a <;> simp

/-- slices.ContainsFunc. -/
theorem ev_ContainsFunc_Link (a : List GLink) (f : FuncId) (caps : List PV) (hcap : PV.bels 0 caps = true) (p : GLink → Bool) (ha : a.length ≤ 9223372036854775806) (hp : ∀ x ∈ a, callM fns (ev fns) f (Enc.pv x :: caps) [] = some (.val (.bool (p x)), [])) :
    ev fns i_slices_ContainsFunc_L_impl_Link [lst 4 a, .fn f caps] [] = some (bol (a.any p), []) := by
  refine go_slices_ContainsFunc_L_impl_Link (by simp) ?_
  have h := ev_IndexFunc_Link a f caps p ha hp
  simp at h
  simp [ac_slices_ContainsFunc_L_impl_Link, hcap, h, ixOf_any]

/-- slices.IndexFunc. -/
theorem ev_IndexFunc_Module (a : List GModule) (f : FuncId) (caps : List PV) (p : GModule → Bool) (ha : a.length ≤ 9223372036854775806) (hp : ∀ x ∈ a, callM fns (ev fns) f (Enc.pv x :: caps) [] = some (.val (.bool (p x)), [])) :
    ev fns i_slices_IndexFunc_L_impl_Module [lst 2 a, .fn f caps] [] = some (i64 (ixOf p a), []) := by
  refine go_slices_IndexFunc_L_impl_Module (by simp) ?_
  have lo := fun ks => loop_ix (F := fun k => rE fns fa_slices_IndexFunc_L_impl_Module 0 (.code lo_slices_IndexFunc_L_impl_Module_0 :: .inBlock 0 :: ks) [(8, i64 k), (7, i64 a.length), (1, .fn f caps), (0, lst 2 a)] []) (a := a) (p := p)
    (e := rE fns fa_slices_IndexFunc_L_impl_Module 0 ks [] []) (r := fun i => some (i64 i, []))
    (fun k h => by
      have hw := wrap_i64 (n := k + 1) (by omega)
      have hc := hp _ (List.getElem_mem h)
      simp at hc
      rw [l_slices_IndexFunc_L_impl_Module_0]
      refine ⟨fun c => ?_, fun c => ?_⟩ <;> simp [lb_slices_IndexFunc_L_impl_Module_0, h, hw, hc, c])
    (by rw [l_slices_IndexFunc_L_impl_Module_0]; simp [lb_slices_IndexFunc_L_impl_Module_0])
  simp at lo
  simp [ac_slices_IndexFunc_L_impl_Module, lo]
  unfold ixOf
  cases firstIx p a <;> simp

/-- slices.ContainsFunc. -/
theorem ev_ContainsFunc_Module (a : List GModule) (f : FuncId) (caps : List PV) (hcap : PV.bels 0 caps = true) (p : GModule → Bool) (ha : a.length ≤ 9223372036854775806) (hp : ∀ x ∈ a, callM fns (ev fns) f (Enc.pv x :: caps) [] = some (.val (.bool (p x)), [])) :
    ev fns i_slices_ContainsFunc_L_impl_Module [lst 2 a, .fn f caps] [] = some (bol (a.any p), []) := by
  refine go_slices_ContainsFunc_L_impl_Module (by simp) ?_
  have h := ev_IndexFunc_Module a f caps p ha hp
  simp at h
  simp [ac_slices_ContainsFunc_L_impl_Module, hcap, h, ixOf_any]

/-- slices.Equal. -/
@[simp] theorem ev_Equal_Link (a b : List GLink) (ha : a.length ≤ 1048576) : ev fns i_slices_Equal_L_impl_Link [lst 4 a, lst 4 b] [] = some (bol (decide (a = b)), []) := by
  refine go_slices_Equal_L_impl_Link (by simp) ?_
  by_cases hr : a.length = b.length
  · have lo := fun ks => loop_eq (F := fun k => rE fns fa_slices_Equal_L_impl_Link 0 (.code lo_slices_Equal_L_impl_Link_0 :: .inBlock 0 :: ks) [(13, i64 k), (12, i64 a.length), (1, lst 4 b), (0, lst 4 a)] []) hr
      (e := rE fns fa_slices_Equal_L_impl_Link 0 ks [] []) (r := some (bol false, []))
      (fun k h h' => by
        have hw := wrap_i64 (n := k + 1) (by omega)
        rw [l_slices_Equal_L_impl_Link_0, Ne, GLink.eq_iff]
        refine ⟨fun c => ?_, fun c => ?_⟩ <;> simp [lb_slices_Equal_L_impl_Link_0, h, h', hw, c])
      (by rw [l_slices_Equal_L_impl_Link_0]; simp [lb_slices_Equal_L_impl_Link_0])
    simp at lo
    by_cases c : a = b
    · simpa [ac_slices_Equal_L_impl_Link, ← hr, (lo _).1 c] using c
    · simp [ac_slices_Equal_L_impl_Link, ← hr, (lo _).2 c, c]
  · have c : a ≠ b := fun e => hr (by rw [e])
    simp [ac_slices_Equal_L_impl_Link, c, hr]

/-- slices.EqualFunc, with a function that tells whether two elements are equal. -/
theorem ev_EqualFunc_Module (a b : List GModule) (f : FuncId) (ha : a.length ≤ 1048576) (hp : ∀ x ∈ a, ∀ (y : GModule) (σ : List AObj), callM fns (ev fns) f [Enc.pv x, Enc.pv y] σ = some (.val (.bool (decide (x = y))), σ)) :
    ev fns i_slices_EqualFunc_L_impl_Module [lst 2 a, lst 2 b, .val (.func (.func f) #[] #[])] [] = some (bol (decide (a = b)), []) := by
  refine go_slices_EqualFunc_L_impl_Module (by simp) ?_
  by_cases hr : a.length = b.length
  · have lo := fun ks => loop_eq (F := fun k => rE fns fa_slices_EqualFunc_L_impl_Module 0 (.code lo_slices_EqualFunc_L_impl_Module_0 :: .inBlock 0 :: ks) [(17, i64 k), (16, i64 a.length), (15, lst 2 a), (2, .val (.func (.func f) #[] #[])), (1, lst 2 b)] []) hr
      (e := rE fns fa_slices_EqualFunc_L_impl_Module 0 ks [] []) (r := some (bol false, []))
      (fun k h h' => by
        have hw := wrap_i64 (n := k + 1) (by omega)
        have hc := hp _ (List.getElem_mem h) b[k]
        rw [l_slices_EqualFunc_L_impl_Module_0, Ne]
        refine ⟨fun c => ?_, fun c => ?_⟩
        · simp [c] at hc; simp [lb_slices_EqualFunc_L_impl_Module_0, h, h', hw, c, hc]
        · simp [c] at hc; simp [lb_slices_EqualFunc_L_impl_Module_0, h, h', hw, c, hc])
      (by rw [l_slices_EqualFunc_L_impl_Module_0]; simp [lb_slices_EqualFunc_L_impl_Module_0])
    simp at lo
    by_cases c : a = b
    · simpa [ac_slices_EqualFunc_L_impl_Module, ← hr, (lo _).1 c] using c
    · simp [ac_slices_EqualFunc_L_impl_Module, ← hr, (lo _).2 c, c]
  · have c : a ≠ b := fun e => hr (by rw [e])
    simp [ac_slices_EqualFunc_L_impl_Module, c, hr]

/-- slices.Equal. -/
@[simp] theorem ev_Equal_OutMove (a b : List GOutMove) (ha : a.length ≤ 1048576) : ev fns i_slices_Equal_L_impl_OutMove [lst 2 a, lst 2 b] [] = some (bol (decide (a = b)), []) := by
  refine go_slices_Equal_L_impl_OutMove (by simp) ?_
  by_cases hr : a.length = b.length
  · have lo := fun ks => loop_eq (F := fun k => rE fns fa_slices_Equal_L_impl_OutMove 0 (.code lo_slices_Equal_L_impl_OutMove_0 :: .inBlock 0 :: ks) [(13, i64 k), (12, i64 a.length), (1, lst 2 b), (0, lst 2 a)] []) hr
      (e := rE fns fa_slices_Equal_L_impl_OutMove 0 ks [] []) (r := some (bol false, []))
      (fun k h h' => by
        have hw := wrap_i64 (n := k + 1) (by omega)
        rw [l_slices_Equal_L_impl_OutMove_0, Ne, GOutMove.eq_iff]
        refine ⟨fun c => ?_, fun c => ?_⟩ <;> simp [lb_slices_Equal_L_impl_OutMove_0, h, h', hw, c])
      (by rw [l_slices_Equal_L_impl_OutMove_0]; simp [lb_slices_Equal_L_impl_OutMove_0])
    simp at lo
    by_cases c : a = b
    · simpa [ac_slices_Equal_L_impl_OutMove, ← hr, (lo _).1 c] using c
    · simp [ac_slices_Equal_L_impl_OutMove, ← hr, (lo _).2 c, c]
  · have c : a ≠ b := fun e => hr (by rw [e])
    simp [ac_slices_Equal_L_impl_OutMove, c, hr]

/-- slices.Equal. -/
@[simp] theorem ev_Equal_OutPush (a b : List GOutPush) (ha : a.length ≤ 1048576) : ev fns i_slices_Equal_L_impl_OutPush [lst 3 a, lst 3 b] [] = some (bol (decide (a = b)), []) := by
  refine go_slices_Equal_L_impl_OutPush (by simp) ?_
  by_cases hr : a.length = b.length
  · have lo := fun ks => loop_eq (F := fun k => rE fns fa_slices_Equal_L_impl_OutPush 0 (.code lo_slices_Equal_L_impl_OutPush_0 :: .inBlock 0 :: ks) [(13, i64 k), (12, i64 a.length), (1, lst 3 b), (0, lst 3 a)] []) hr
      (e := rE fns fa_slices_Equal_L_impl_OutPush 0 ks [] []) (r := some (bol false, []))
      (fun k h h' => by
        have hw := wrap_i64 (n := k + 1) (by omega)
        rw [l_slices_Equal_L_impl_OutPush_0, Ne, GOutPush.eq_iff]
        refine ⟨fun c => ?_, fun c => ?_⟩ <;> simp [lb_slices_Equal_L_impl_OutPush_0, h, h', hw, c])
      (by rw [l_slices_Equal_L_impl_OutPush_0]; simp [lb_slices_Equal_L_impl_OutPush_0])
    simp at lo
    by_cases c : a = b
    · simpa [ac_slices_Equal_L_impl_OutPush, ← hr, (lo _).1 c] using c
    · simp [ac_slices_Equal_L_impl_OutPush, ← hr, (lo _).2 c, c]
  · have c : a ≠ b := fun e => hr (by rw [e])
    simp [ac_slices_Equal_L_impl_OutPush, c, hr]

/-- slices.EqualFunc, with a function that tells whether two elements are equal. -/
theorem ev_EqualFunc_OutMoveS (a b : List (List GOutMove)) (f : FuncId) (ha : a.length ≤ 1048576) (hp : ∀ x ∈ a, ∀ (y : (List GOutMove)) (σ : List AObj), callM fns (ev fns) f [Enc.pv x, Enc.pv y] σ = some (.val (.bool (decide (x = y))), σ)) :
    ev fns i_slices_EqualFunc_L_L_impl_OutMove [lst 1 a, lst 1 b, .val (.func (.func f) #[] #[])] [] = some (bol (decide (a = b)), []) := by
  refine go_slices_EqualFunc_L_L_impl_OutMove (by simp) ?_
  by_cases hr : a.length = b.length
  · have lo := fun ks => loop_eq (F := fun k => rE fns fa_slices_EqualFunc_L_L_impl_OutMove 0 (.code lo_slices_EqualFunc_L_L_impl_OutMove_0 :: .inBlock 0 :: ks) [(17, i64 k), (16, i64 a.length), (15, lst 1 a), (2, .val (.func (.func f) #[] #[])), (1, lst 1 b)] []) hr
      (e := rE fns fa_slices_EqualFunc_L_L_impl_OutMove 0 ks [] []) (r := some (bol false, []))
      (fun k h h' => by
        have hw := wrap_i64 (n := k + 1) (by omega)
        have hc := hp _ (List.getElem_mem h) b[k]
        rw [l_slices_EqualFunc_L_L_impl_OutMove_0, Ne]
        refine ⟨fun c => ?_, fun c => ?_⟩
        · simp [c] at hc; simp [lb_slices_EqualFunc_L_L_impl_OutMove_0, h, h', hw, c, hc]
        · simp [c] at hc; simp [lb_slices_EqualFunc_L_L_impl_OutMove_0, h, h', hw, c, hc])
      (by rw [l_slices_EqualFunc_L_L_impl_OutMove_0]; simp [lb_slices_EqualFunc_L_L_impl_OutMove_0])
    simp at lo
    by_cases c : a = b
    · simpa [ac_slices_EqualFunc_L_L_impl_OutMove, ← hr, (lo _).1 c] using c
    · simp [ac_slices_EqualFunc_L_L_impl_OutMove, ← hr, (lo _).2 c, c]
  · have c : a ≠ b := fun e => hr (by rw [e])
    simp [ac_slices_EqualFunc_L_L_impl_OutMove, c, hr]

/-- slices.EqualFunc, with a function that tells whether two elements are equal. -/
theorem ev_EqualFunc_OutPushS (a b : List (List GOutPush)) (f : FuncId) (ha : a.length ≤ 1048576) (hp : ∀ x ∈ a, ∀ (y : (List GOutPush)) (σ : List AObj), callM fns (ev fns) f [Enc.pv x, Enc.pv y] σ = some (.val (.bool (decide (x = y))), σ)) :
    ev fns i_slices_EqualFunc_L_L_impl_OutPush [lst 1 a, lst 1 b, .val (.func (.func f) #[] #[])] [] = some (bol (decide (a = b)), []) := by
  refine go_slices_EqualFunc_L_L_impl_OutPush (by simp) ?_
  by_cases hr : a.length = b.length
  · have lo := fun ks => loop_eq (F := fun k => rE fns fa_slices_EqualFunc_L_L_impl_OutPush 0 (.code lo_slices_EqualFunc_L_L_impl_OutPush_0 :: .inBlock 0 :: ks) [(17, i64 k), (16, i64 a.length), (15, lst 1 a), (2, .val (.func (.func f) #[] #[])), (1, lst 1 b)] []) hr
      (e := rE fns fa_slices_EqualFunc_L_L_impl_OutPush 0 ks [] []) (r := some (bol false, []))
      (fun k h h' => by
        have hw := wrap_i64 (n := k + 1) (by omega)
        have hc := hp _ (List.getElem_mem h) b[k]
        rw [l_slices_EqualFunc_L_L_impl_OutPush_0, Ne]
        refine ⟨fun c => ?_, fun c => ?_⟩
        · simp [c] at hc; simp [lb_slices_EqualFunc_L_L_impl_OutPush_0, h, h', hw, c, hc]
        · simp [c] at hc; simp [lb_slices_EqualFunc_L_L_impl_OutPush_0, h, h', hw, c, hc])
      (by rw [l_slices_EqualFunc_L_L_impl_OutPush_0]; simp [lb_slices_EqualFunc_L_L_impl_OutPush_0])
    simp at lo
    by_cases c : a = b
    · simpa [ac_slices_EqualFunc_L_L_impl_OutPush, ← hr, (lo _).1 c] using c
    · simp [ac_slices_EqualFunc_L_L_impl_OutPush, ← hr, (lo _).2 c, c]
  · have c : a ≠ b := fun e => hr (by rw [e])
    simp [ac_slices_EqualFunc_L_L_impl_OutPush, c, hr]

/-- slices.EqualFunc, with a function that tells whether two elements are equal. -/
theorem ev_EqualFunc_OutMoveSS (a b : List (List (List GOutMove))) (f : FuncId) (ha : a.length ≤ 1048576) (hp : ∀ x ∈ a, ∀ (y : (List (List GOutMove))) (σ : List AObj), callM fns (ev fns) f [Enc.pv x, Enc.pv y] σ = some (.val (.bool (decide (x = y))), σ)) :
    ev fns i_slices_EqualFunc_L_L_L_impl_OutMove [lst 1 a, lst 1 b, .val (.func (.func f) #[] #[])] [] = some (bol (decide (a = b)), []) := by
  refine go_slices_EqualFunc_L_L_L_impl_OutMove (by simp) ?_
  by_cases hr : a.length = b.length
  · have lo := fun ks => loop_eq (F := fun k => rE fns fa_slices_EqualFunc_L_L_L_impl_OutMove 0 (.code lo_slices_EqualFunc_L_L_L_impl_OutMove_0 :: .inBlock 0 :: ks) [(17, i64 k), (16, i64 a.length), (15, lst 1 a), (2, .val (.func (.func f) #[] #[])), (1, lst 1 b)] []) hr
      (e := rE fns fa_slices_EqualFunc_L_L_L_impl_OutMove 0 ks [] []) (r := some (bol false, []))
      (fun k h h' => by
        have hw := wrap_i64 (n := k + 1) (by omega)
        have hc := hp _ (List.getElem_mem h) b[k]
        rw [l_slices_EqualFunc_L_L_L_impl_OutMove_0, Ne]
        refine ⟨fun c => ?_, fun c => ?_⟩
        · simp [c] at hc; simp [lb_slices_EqualFunc_L_L_L_impl_OutMove_0, h, h', hw, c, hc]
        · simp [c] at hc; simp [lb_slices_EqualFunc_L_L_L_impl_OutMove_0, h, h', hw, c, hc])
      (by rw [l_slices_EqualFunc_L_L_L_impl_OutMove_0]; simp [lb_slices_EqualFunc_L_L_L_impl_OutMove_0])
    simp at lo
    by_cases c : a = b
    · simpa [ac_slices_EqualFunc_L_L_L_impl_OutMove, ← hr, (lo _).1 c] using c
    · simp [ac_slices_EqualFunc_L_L_L_impl_OutMove, ← hr, (lo _).2 c, c]
  · have c : a ≠ b := fun e => hr (by rw [e])
    simp [ac_slices_EqualFunc_L_L_L_impl_OutMove, c, hr]

end Go.Proofs.Ytpjadhjjeafffaa
