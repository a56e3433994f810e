/- Structural rewriters: the program's and the reference's; the law FnExactIsStructural, run. -/
import Derived.Test.YtjfpmpbdbpgofaaRwStep
import Derived.Test.YtjfpmpbdbpgofaaWord2
set_option linter.unusedVariables false
set_option linter.unusedSimpArgs false
set_option maxRecDepth 100000
namespace Go.Proofs.Ytjfpmpbdbpgofaa
open Aw

/-- What a row of a valid rewriter is. -/
theorem okRow_two {n st : Int} {c : List GOutPush} {b : List (List GOutMove)} {i : List GOutMove} (h : okRow n st c b i = true) :
    ∃ p0 p1 q0 q1 i0 i1, c = [p0, p1] ∧ b = [q0, q1] ∧ i = [i0, i1] ∧ okPush n st p0 = true ∧ okPush n st p1 = true ∧ okMoves n (st + 1) q0 = true ∧ okMoves n (st + 1) q1 = true ∧ okMove n i0 = true ∧ okMove n i1 = true := by
  simp only [okRow, Bool.and_eq_true, decide_eq_true_eq] at h
  obtain ⟨⟨⟨⟨h1, h2⟩, h3⟩, h4⟩, h5⟩ := h
  obtain ⟨p0, p1, rfl⟩ := two_of h1
  obtain ⟨q0, q1, rfl⟩ := two_of h2
  have h3' := h3
  simp only [okMoves, Bool.and_eq_true, decide_eq_true_eq] at h3'
  obtain ⟨i0, i1, rfl⟩ := two_of (show i.length = 2 by omega)
  simp at h4 h5
  simp at h3'
  exact ⟨p0, p1, q0, q1, i0, i1, rfl, rfl, rfl, h4.1, h4.2, h5.1, h5.2, h3'.1, h3'.2⟩

def pend (t : ByteArray) (a b : Int) : Bool := decide (((mmatch (wl t)).ret.length : Int) = a) && decide (((mmatch (wl t)).cal.length : Int) = b)
@[simp] theorem ev_impl_isPending (t : ByteArray) (a b : Int) (hz : t.size ≤ 1048576) : ev fns i_impl_isPending [str t, i64 a, i64 b] [] = some (bol (pend t a b), []) := by
  refine go_impl_isPending (by simp) ?_
  have v := ev_impl_match t hz
  simp at v
  unfold pend
  by_cases h : ((mmatch (wl t)).ret.length : Int) = a
  · simp [ac_impl_isPending, v, h, setCells]
  · simp [ac_impl_isPending, v, h, setCells]
@[simp] theorem ev_spec_l06Has (t : ByteArray) (a b : Int) (hz : t.size ≤ 1048576) : ev fns i_spec_l06Has [str t, i64 a, i64 b] [] = some (bol (pend t a b), []) := by
  refine go_spec_l06Has (by simp) ?_
  have v := ev_spec_l01Pending t hz
  simp at v
  unfold pend
  by_cases h : ((mmatch (wl t)).ret.length : Int) = a
  · simp [ac_spec_l06Has, v, h]
  · simp [ac_spec_l06Has, v, h]

def strRow (c : List GOutPush) (b : List (List GOutMove)) (i : List GOutMove) : Bool :=
  c.all (fun p => pend p.out 0 1) && i.all (fun m => pend m.out 0 0) && b.all (fun q => q.all fun m => pend m.out 1 0)
def strRw (r : GRewriter) : Bool := (List.range r.call.length).all fun s => strRow (r.call.getD s []) (r.ret.getD s []) (r.inner.getD s [])
theorem sz_mv {q : List GOutMove} (hq : Siz.size q ≤ 1048576) {m : GOutMove} (hm : m ∈ q) : m.out.size ≤ 1048576 := by
  have := Siz.mem_le hm
  rw [size_OutMove, size_str] at this; omega
theorem ev_cont (q : List GOutMove) (hz : Siz.size q ≤ 1048576) : ev fns i_slices_ContainsFunc_L_impl_OutMove [lst 2 q, .val (.func (.func i_impl_Rewriter_isStructural_1) #[] #[])] [] = some (bol (!(q.all fun m => pend m.out 1 0)), []) := by
  have hl := Siz.len_le q
  rw [← any_not_all]
  exact ev_ContainsFuncV_OutMove q (.val (.func (.func i_impl_Rewriter_isStructural_1) #[] #[])) (by simp) (fun m => !pend m.out 1 0) (by omega) (fun m hm => by
    have v := ev_impl_isPending m.out 1 0 (sz_mv hz hm)
    simp at v
    have : ev fns i_impl_Rewriter_isStructural_1 [m.v] [] = some (bol (!pend m.out 1 0), []) := by
      refine go_impl_Rewriter_isStructural_1 (by simp) ?_
      simp [ac_impl_Rewriter_isStructural_1, v]
    simp at this
    simp [this])
set_option maxHeartbeats 1000000 in
theorem ev_impl_isStructural (r : GRewriter) (hz : Siz.size r ≤ 1048576) (hok : okRw r = true) : ev fns i_impl_Rewriter_isStructural [r.v] [] = some (bol (strRw r), []) := by
  refine go_impl_Rewriter_isStructural (by simp) ?_
  obtain ⟨g1, g2, g3, g4, g5⟩ := okRw_len hok
  have g1' := g1
  simp only [inR, Bool.and_eq_true, decide_eq_true_eq] at g1'
  unfold strRw
  have lo := fun ks => loop_below (F := fun s => rE fns fa_impl_Rewriter_isStructural 0 (.code lo_impl_Rewriter_isStructural_1 :: .inBlock 0 :: ks) [(8, i64 s), (7, i64 r.call.length), (1, RwF r)] []) (n := r.call.length)
    (p := fun s => strRow (r.call.getD s []) (r.ret.getD s []) (r.inner.getD s [])) (e := rE fns fa_impl_Rewriter_isStructural 0 ks [] []) (r := some (bol false, []))
    (fun s hs => by
      have hr : s < r.ret.length := by omega
      have hi : s < r.inner.length := by omega
      rw [getD_at hs, getD_at hr, getD_at hi]
      have hw := wrap_i64 (n := s + 1) (by omega)
      have w3 := wrap_i64 (n := 2) (by omega)
      have w4 := wrap_i64 (n := 1) (by omega)
      obtain ⟨p0, p1, q0, q1, i0, i1, e1, e2, e3, -⟩ := okRow_two (okRw_row hok hs hr hi)
      have mc : [p0, p1] ∈ r.call := by rw [← e1]; exact List.getElem_mem hs
      have mb : [q0, q1] ∈ r.ret := by rw [← e2]; exact List.getElem_mem hr
      have mi : [i0, i1] ∈ r.inner := by rw [← e3]; exact List.getElem_mem hi
      have a0 := ev_impl_isPending p0.out 0 1 (sz_call hz mc (by simp))
      have a1 := ev_impl_isPending p1.out 0 1 (sz_call hz mc (by simp))
      have b0 := ev_impl_isPending i0.out 0 0 (sz_mv (sz_inn hz mi) (by simp))
      have b1 := ev_impl_isPending i1.out 0 0 (sz_mv (sz_inn hz mi) (by simp))
      have c0 := ev_cont q0 (sz_ret hz mb (by simp))
      have c1 := ev_cont q1 (sz_ret hz mb (by simp))
      simp only [e1, e2, e3]
      unfold strRow
      simp only [List.all_cons, List.all_nil, Bool.and_true]
      rw [l_impl_Rewriter_isStructural_1]
      simp at a0 a1 b0 b1
      cases h1 : pend p0.out 0 1
      · simp [h1] at a0
        simp [lb_impl_Rewriter_isStructural_1, l_impl_Rewriter_isStructural_0, lb_impl_Rewriter_isStructural_0, hs, hr, hi, e1, e2, e3, w3, w4, a0]
      simp [h1] at a0
      cases h2 : pend i0.out 0 0
      · simp [h2] at b0
        simp [lb_impl_Rewriter_isStructural_1, l_impl_Rewriter_isStructural_0, lb_impl_Rewriter_isStructural_0, hs, hr, hi, e1, e2, e3, w3, w4, a0, b0]
      simp [h2] at b0
      cases h3 : q0.all fun m => pend m.out 1 0
      · rw [h3] at c0; simp at c0
        simp [lb_impl_Rewriter_isStructural_1, l_impl_Rewriter_isStructural_0, lb_impl_Rewriter_isStructural_0, hs, hr, hi, e1, e2, e3, w3, w4, a0, b0, c0]
      rw [h3] at c0; simp at c0
      cases h4 : pend p1.out 0 1
      · simp [h4] at a1
        simp [lb_impl_Rewriter_isStructural_1, l_impl_Rewriter_isStructural_0, lb_impl_Rewriter_isStructural_0, hs, hr, hi, e1, e2, e3, w3, w4, a0, b0, c0, a1]
      simp [h4] at a1
      cases h5 : pend i1.out 0 0
      · simp [h5] at b1
        simp [lb_impl_Rewriter_isStructural_1, l_impl_Rewriter_isStructural_0, lb_impl_Rewriter_isStructural_0, hs, hr, hi, e1, e2, e3, w3, w4, a0, b0, c0, a1, b1]
      simp [h5] at b1
      cases h6 : q1.all fun m => pend m.out 1 0
      · rw [h6] at c1; simp at c1
        simp [lb_impl_Rewriter_isStructural_1, l_impl_Rewriter_isStructural_0, lb_impl_Rewriter_isStructural_0, hs, hr, hi, e1, e2, e3, w3, w4, a0, b0, c0, a1, b1, c1]
      · rw [h6] at c1; simp at c1
        simp [lb_impl_Rewriter_isStructural_1, l_impl_Rewriter_isStructural_0, lb_impl_Rewriter_isStructural_0, hs, hr, hi, e1, e2, e3, w3, w4, a0, b0, c0, a1, b1, c1, hw])
    (by rw [l_impl_Rewriter_isStructural_1]; simp [lb_impl_Rewriter_isStructural_1])
  cases c : (List.range r.call.length).all fun s => strRow (r.call.getD s []) (r.ret.getD s []) (r.inner.getD s [])
  · simp only [c, Bool.false_eq_true, if_false] at lo
    simp at lo
    simp [ac_impl_Rewriter_isStructural, lo]
  · simp only [c, if_true] at lo
    simp at lo
    simp [ac_impl_Rewriter_isStructural, lo]
theorem lo_str_0 (r : GRewriter) (hz : Siz.size r ≤ 1048576) (s : Nat) (k : Nat) (hr : s < r.ret.length) (hk : k < r.ret[s].length) (q : List GOutMove) (hq : r.ret[s][k] = q) (ks : List KI) :
    rE fns fa_spec_l06Structural 0 (.code lo_spec_l06Structural_0 :: .inBlock 4 :: ks) [(5, i64 0), (4, i64 k), (3, i64 s), (0, RwF r)] [] =
      if (q.all fun m => pend m.out 1 0) = true then rE fns fa_spec_l06Structural 0 ks [(4, i64 k), (3, i64 s), (0, RwF r)] [] else some (bol false, []) := by
  have hzq : Siz.size q ≤ 1048576 := by rw [← hq]; exact sz_ret hz (List.getElem_mem hr) (List.getElem_mem hk)
  have hl := Siz.len_le q
  exact loop_forall (F := fun j => rE fns fa_spec_l06Structural 0 (.code lo_spec_l06Structural_0 :: .inBlock 4 :: ks) [(5, i64 j), (4, i64 k), (3, i64 s), (0, RwF r)] []) (a := q) (p := fun m => pend m.out 1 0)
    (fun j h => by
      have hw := wrap_i64 (n := j + 1) (by omega)
      have v := ev_spec_l06Has q[j].out 1 0 (sz_mv hzq (List.getElem_mem h))
      simp at v
      rw [l_spec_l06Structural_0]
      refine ⟨fun c => ?_, fun c => ?_⟩ <;> simp [c] at v <;> simp [lb_spec_l06Structural_0, hr, hk, hq, h, hw, v])
    (by rw [l_spec_l06Structural_0]; simp [lb_spec_l06Structural_0, hr, hk, hq])
set_option maxHeartbeats 1000000 in
theorem ev_spec_l06Structural (r : GRewriter) (hz : Siz.size r ≤ 1048576) (hok : okRw r = true) : ev fns i_spec_l06Structural [RwF r] [] = some (bol (strRw r), []) := by
  refine go_spec_l06Structural (by simp) ?_
  obtain ⟨g1, g2, g3, g4, g5⟩ := okRw_len hok
  have g1' := g1
  simp only [inR, Bool.and_eq_true, decide_eq_true_eq] at g1'
  unfold strRw
  have lo := fun ks => loop_below (F := fun s => rE fns fa_spec_l06Structural 0 (.code lo_spec_l06Structural_2 :: .inBlock 0 :: ks) [(3, i64 s), (0, RwF r)] []) (n := r.call.length)
    (p := fun s => strRow (r.call.getD s []) (r.ret.getD s []) (r.inner.getD s [])) (e := rE fns fa_spec_l06Structural 0 ks [] []) (r := some (bol false, []))
    (fun s hs => by
      have hr : s < r.ret.length := by omega
      have hi : s < r.inner.length := by omega
      rw [getD_at hs, getD_at hr, getD_at hi]
      have hw := wrap_i64 (n := s + 1) (by omega)
      have w3 := wrap_i64 (n := 2) (by omega)
      have w4 := wrap_i64 (n := 1) (by omega)
      obtain ⟨p0, p1, q0, q1, i0, i1, e1, e2, e3, -⟩ := okRow_two (okRw_row hok hs hr hi)
      have mc : [p0, p1] ∈ r.call := by rw [← e1]; exact List.getElem_mem hs
      have mi : [i0, i1] ∈ r.inner := by rw [← e3]; exact List.getElem_mem hi
      have a0 := ev_spec_l06Has p0.out 0 1 (sz_call hz mc (by simp))
      have a1 := ev_spec_l06Has p1.out 0 1 (sz_call hz mc (by simp))
      have b0 := ev_spec_l06Has i0.out 0 0 (sz_mv (sz_inn hz mi) (by simp))
      have b1 := ev_spec_l06Has i1.out 0 0 (sz_mv (sz_inn hz mi) (by simp))
      have c0 := lo_str_0 r hz s 0 hr (by rw [e2]; simp) q0 (by simp [e2])
      have c1 := lo_str_0 r hz s 1 hr (by rw [e2]; simp) q1 (by simp [e2])
      simp only [e1, e2, e3]
      unfold strRow
      simp only [List.all_cons, List.all_nil, Bool.and_true]
      rw [l_spec_l06Structural_2]
      simp at a0 a1 b0 b1
      cases h1 : pend p0.out 0 1
      · simp [h1] at a0
        simp [lb_spec_l06Structural_2, l_spec_l06Structural_1, lb_spec_l06Structural_1, hs, hr, hi, e1, e2, e3, w3, w4, a0]
      simp [h1] at a0
      cases h2 : pend i0.out 0 0
      · simp [h2] at b0
        simp [lb_spec_l06Structural_2, l_spec_l06Structural_1, lb_spec_l06Structural_1, hs, hr, hi, e1, e2, e3, w3, w4, a0, b0]
      simp [h2] at b0
      cases h3 : q0.all fun m => pend m.out 1 0
      · simp only [h3, Bool.false_eq_true, if_false] at c0; simp at c0
        simp [lb_spec_l06Structural_2, l_spec_l06Structural_1, lb_spec_l06Structural_1, hs, hr, hi, e1, e2, e3, w3, w4, a0, b0, c0]
      simp only [h3, if_true] at c0; simp at c0
      cases h4 : pend p1.out 0 1
      · simp [h4] at a1
        simp [lb_spec_l06Structural_2, l_spec_l06Structural_1, lb_spec_l06Structural_1, hs, hr, hi, e1, e2, e3, w3, w4, a0, b0, c0, a1]
      simp [h4] at a1
      cases h5 : pend i1.out 0 0
      · simp [h5] at b1
        simp [lb_spec_l06Structural_2, l_spec_l06Structural_1, lb_spec_l06Structural_1, hs, hr, hi, e1, e2, e3, w3, w4, a0, b0, c0, a1, b1]
      simp [h5] at b1
      cases h6 : q1.all fun m => pend m.out 1 0
      · simp only [h6, Bool.false_eq_true, if_false] at c1; simp at c1
        simp [lb_spec_l06Structural_2, l_spec_l06Structural_1, lb_spec_l06Structural_1, hs, hr, hi, e1, e2, e3, w3, w4, a0, b0, c0, a1, b1, c1]
      · simp only [h6, if_true] at c1; simp at c1
        simp [lb_spec_l06Structural_2, l_spec_l06Structural_1, lb_spec_l06Structural_1, hs, hr, hi, e1, e2, e3, w3, w4, a0, b0, c0, a1, b1, c1, hw])
    (by rw [l_spec_l06Structural_2]; simp [lb_spec_l06Structural_2])
  cases c : (List.range r.call.length).all fun s => strRow (r.call.getD s []) (r.ret.getD s []) (r.inner.getD s [])
  · simp only [c, Bool.false_eq_true, if_false] at lo
    simp at lo
    simp [ac_spec_l06Structural, lo]
  · simp only [c, if_true] at lo
    simp at lo
    simp [ac_spec_l06Structural, lo]
def isStrA (r : GRewriter) : Bool × Int := if okRw r = true then (strRw r, 0) else (false, 1)
end Go.Proofs.Ytjfpmpbdbpgofaa
