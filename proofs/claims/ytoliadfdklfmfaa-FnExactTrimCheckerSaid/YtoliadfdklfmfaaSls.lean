/- What package slices' functions do, over typed data; printed by a program (sl.py). -/
import Derived.Test.YtoliadfdklfmfaaDat
import Derived.Test.YtoliadfdklfmfaaLoops
set_option linter.unusedVariables false
set_option linter.unusedSimpArgs false
set_option maxRecDepth 100000
namespace Go.Proofs.Ytoliadfdklfmfaa
open Aw

/-- slices.IndexFunc. -/
theorem ev_IndexFunc_Int64 (a : List Int) (f : FuncId) (caps : List PV) (p : Int → Bool) (ha : a.length ≤ 9223372036854775806) (hp : ∀ x ∈ a, callM fns (ev fns) f (Enc.pv x :: caps) [] = some (.val (.bool (p x)), [])) :
    ev fns i_slices_IndexFunc_L_int64 [lst 1 a, .fn f caps] [] = some (i64 (ixOf p a), []) := by
  refine go_slices_IndexFunc_L_int64 (by simp) ?_
  have lo := fun ks => loop_ix (F := fun k => rE fns fa_slices_IndexFunc_L_int64 0 (.code lo_slices_IndexFunc_L_int64_0 :: .inBlock 0 :: ks) [(8, i64 k), (7, i64 a.length), (1, .fn f caps), (0, lst 1 a)] []) (a := a) (p := p)
    (e := rE fns fa_slices_IndexFunc_L_int64 0 ks [] []) (r := fun i => some (i64 i, []))
    (fun k h => by
      have hw := wrap_i64 (n := k + 1) (by omega)
      have hc := hp _ (List.getElem_mem h)
      simp at hc
      rw [l_slices_IndexFunc_L_int64_0]
      refine ⟨fun c => ?_, fun c => ?_⟩ <;> simp [lb_slices_IndexFunc_L_int64_0, h, hw, hc, c])
    (by rw [l_slices_IndexFunc_L_int64_0]; simp [lb_slices_IndexFunc_L_int64_0])
  simp at lo
  simp [ac_slices_IndexFunc_L_int64, lo]
  unfold ixOf
  cases firstIx p a <;> simp

theorem ev_IndexFuncV_Int64 (a : List Int) (fv : PV) (p : Int → Bool) (ha : a.length ≤ 9223372036854775806) (hp : ∀ x ∈ a, callV fns (ev fns) fv [Enc.pv x] [] = some (.val (.bool (p x)), [])) :
    ev fns i_slices_IndexFunc_L_int64 [lst 1 a, fv] [] = some (i64 (ixOf p a), []) := by
  refine go_slices_IndexFunc_L_int64 (by simp) ?_
  have lo := fun ks => loop_ix (F := fun k => rE fns fa_slices_IndexFunc_L_int64 0 (.code lo_slices_IndexFunc_L_int64_0 :: .inBlock 0 :: ks) [(8, i64 k), (7, i64 a.length), (1, fv), (0, lst 1 a)] []) (a := a) (p := p)
    (e := rE fns fa_slices_IndexFunc_L_int64 0 ks [] []) (r := fun i => some (i64 i, []))
    (fun k h => by
      have hw := wrap_i64 (n := k + 1) (by omega)
      have hc := hp _ (List.getElem_mem h)
      simp at hc
      rw [l_slices_IndexFunc_L_int64_0]
      refine ⟨fun c => ?_, fun c => ?_⟩ <;> simp [lb_slices_IndexFunc_L_int64_0, h, hw, hc, c])
    (by rw [l_slices_IndexFunc_L_int64_0]; simp [lb_slices_IndexFunc_L_int64_0])
  simp at lo
  simp [ac_slices_IndexFunc_L_int64, lo]
  unfold ixOf
  cases firstIx p a <;> simp

theorem ev_ContainsFuncV_Int64 (a : List Int) (fv : PV) (hb : fv.bel 0 = true) (p : Int → Bool) (ha : a.length ≤ 9223372036854775806) (hp : ∀ x ∈ a, callV fns (ev fns) fv [Enc.pv x] [] = some (.val (.bool (p x)), [])) :
    ev fns i_slices_ContainsFunc_L_int64 [lst 1 a, fv] [] = some (bol (a.any p), []) := by
  refine go_slices_ContainsFunc_L_int64 (by simp) ?_
  have h := ev_IndexFuncV_Int64 a fv p ha hp
  simp at h
  simp [ac_slices_ContainsFunc_L_int64, hb, h, ixOf_any]

/-- slices.ContainsFunc. -/
theorem ev_ContainsFunc_Int64 (a : List Int) (f : FuncId) (caps : List PV) (hcap : PV.bels 0 caps = true) (p : Int → Bool) (ha : a.length ≤ 9223372036854775806) (hp : ∀ x ∈ a, callM fns (ev fns) f (Enc.pv x :: caps) [] = some (.val (.bool (p x)), [])) :
    ev fns i_slices_ContainsFunc_L_int64 [lst 1 a, .fn f caps] [] = some (bol (a.any p), []) := by
  refine go_slices_ContainsFunc_L_int64 (by simp) ?_
  have h := ev_IndexFunc_Int64 a f caps p ha hp
  simp at h
  simp [ac_slices_ContainsFunc_L_int64, hcap, h, ixOf_any]

end Go.Proofs.Ytoliadfdklfmfaa
