/- Validity of checkers: the program's and the reference's. -/
import Derived.Test.YtoliadfdklfmfaaWord
import Derived.Test.YtoliadfdklfmfaaLoops2
import Derived.Test.YtoliadfdklfmfaaSls
set_option linter.unusedVariables false
set_option linter.unusedSimpArgs false
set_option maxRecDepth 100000
namespace Go.Proofs.Ytoliadfdklfmfaa
open Aw

def okSts (n many : Int) (l : List Int) : Bool := decide ((l.length : Int) = many) && l.all (fun s => inR s 0 (n - 1))
def okPsh (n st : Int) (p : GPush) : Bool := inR p.to 0 (n - 1) && inR p.put 0 (st - 1)
def okCkRow (n st : Int) (c : List GPush) (b : List (List Int)) (i : List Int) : Bool :=
  decide (c.length = 2) && decide (b.length = 2) && okSts n 2 i && c.all (okPsh n st) && b.all (okSts n (st + 1))
def okCk (c : GChecker) : Bool :=
  inR c.accept.length 1 40 && inR c.stack 1 80 && inR c.start 0 ((c.accept.length : Int) - 1) && decide (c.call.length = c.accept.length) && decide (c.ret.length = c.accept.length) && decide (c.inner.length = c.accept.length) &&
    (List.range c.accept.length).all fun s => okCkRow c.accept.length c.stack (c.call.getD s []) (c.ret.getD s []) (c.inner.getD s [])
theorem two_ofC {α : Type} {l : List α} (h : l.length = 2) : ∃ a b, l = [a, b] := by
  match l, h with
  | [a, b], _ => exact ⟨a, b, rfl⟩
theorem getD_atC {α : Type} {l : List α} {d : α} {s : Nat} (h : s < l.length) : l.getD s d = l[s] := by
  rw [List.getD_eq_getElem?_getD, List.getElem?_eq_getElem h]; rfl
@[simp] abbrev CkP (c : GChecker) : PV := .fptr [i64 c.stack, i64 c.start, lst 1 c.accept, lst 1 c.call, lst 1 c.ret, lst 1 c.inner] 0

theorem ev_isState (c : GChecker) (s : Int) (hn : inR c.accept.length 1 40 = true) : ev fns i_impl_Checker_isState [c.v, i64 s] [] = some (bol (inR s 0 ((c.accept.length : Int) - 1)), []) := by
  simp only [inR, Bool.and_eq_true, decide_eq_true_eq] at hn
  have w1 := wrap_i64 (n := (c.accept.length : Int) - 1) (by omega)
  have v : ev fns i_impl_size_bool [lst 1 c.accept] [] = some (i64 c.accept.length, []) := by
    refine go_impl_size_bool (by simp) ?_
    simp [ac_impl_size_bool]
  simp at v
  refine go_impl_Checker_isState (by simp) ?_
  simp [ac_impl_Checker_isState, v, w1]
theorem ev_isMark (c : GChecker) (s : Int) (hn : inR c.stack 1 80 = true) : ev fns i_impl_Checker_isMark [c.v, i64 s] [] = some (bol (inR s 0 (c.stack - 1)), []) := by
  simp only [inR, Bool.and_eq_true, decide_eq_true_eq] at hn
  have w1 := wrap_i64 (n := c.stack - 1) (by omega)
  refine go_impl_Checker_isMark (by simp) ?_
  simp [ac_impl_Checker_isMark, w1]
theorem ev_areStates (c : GChecker) (l : List Int) (many : Int) (hn : inR c.accept.length 1 40 = true) (hz : l.length ≤ 1048576) : ev fns i_impl_ValidChecker_1 [lst 1 l, i64 many, CkP c] [] = some (bol (okSts c.accept.length many l), []) := by
  have hs : ev fns i_impl_size_int64 [lst 1 l] [] = some (i64 l.length, []) := by
    refine go_impl_size_int64 (by simp) ?_
    simp [ac_impl_size_int64]
  simp at hs
  have hc := ev_ContainsFunc_Int64 l i_impl_ValidChecker_1_1 [CkP c] (by simp) (fun s => !inR s 0 ((c.accept.length : Int) - 1)) (by omega) (fun s hm => by
    have v := ev_isState c s hn
    simp at v
    have : ev fns i_impl_ValidChecker_1_1 [i64 s, CkP c] [] = some (bol (!inR s 0 ((c.accept.length : Int) - 1)), []) := by
      refine go_impl_ValidChecker_1_1 (by simp) ?_
      simp [ac_impl_ValidChecker_1_1, v]
    simp at this
    simp [this])
  simp [any_not_all] at hc
  refine go_impl_ValidChecker_1 (by simp) ?_
  unfold okSts
  by_cases h1 : (l.length : Int) = many
  · simp [ac_impl_ValidChecker_1, hs, hc, h1]
  · simp [ac_impl_ValidChecker_1, hs, hc, h1]
theorem sz_ckret {c : GChecker} (hz : Siz.size c ≤ 1048576) {b : List (List Int)} (hb : b ∈ c.ret) {q : List Int} (hq : q ∈ b) : q.length ≤ 1048576 := by
  rw [size_Checker] at hz
  have h1 := Siz.mem_le hb
  have h2 := Siz.mem_le hq
  have h3 := Siz.len_le q
  omega
theorem sz_ckinn {c : GChecker} (hz : Siz.size c ≤ 1048576) {b : List Int} (hb : b ∈ c.inner) : b.length ≤ 1048576 := by
  rw [size_Checker] at hz
  have h1 := Siz.mem_le hb
  have h3 := Siz.len_le b
  omega
set_option maxHeartbeats 2000000 in
theorem lo_VC_in (c : GChecker) (hz : Siz.size c ≤ 1048576) (hn : inR c.accept.length 1 40 = true) (hst : inR c.stack 1 80 = true) (s : Nat) (hs : s < c.call.length) (hr : s < c.ret.length) (p0 p1 : GPush) (q0 q1 : List Int) (hc : c.call[s] = [p0, p1]) (hb : c.ret[s] = [q0, q1]) (ks : List KI) :
    rE fns fa_impl_ValidChecker 0 (.code lo_impl_ValidChecker_0 :: .inBlock 2 :: ks) [(79, i64 0), (50, i64 s), (49, i64 c.accept.length), (5, i64 s), (4, .fn i_impl_ValidChecker_1 [CkP c]), (1, CkP c)] [] =
      if (okPsh c.accept.length c.stack p0 && okSts c.accept.length (c.stack + 1) q0 && okPsh c.accept.length c.stack p1 && okSts c.accept.length (c.stack + 1) q1) = true then
        rE fns fa_impl_ValidChecker 0 ks [(50, i64 s), (49, i64 c.accept.length), (4, .fn i_impl_ValidChecker_1 [CkP c]), (1, CkP c)] []
      else some (bol false, []) := by
  have hst' := hst
  simp only [inR, Bool.and_eq_true, decide_eq_true_eq] at hst'
  have w1 := wrap_i64 (n := c.stack - 1) (by omega)
  have w2 := wrap_i64 (n := c.stack + 1) (by omega)
  have w3 := wrap_i64 (n := 2) (by omega)
  have w4 := wrap_i64 (n := 1) (by omega)
  have mb : [q0, q1] ∈ c.ret := by rw [← hb]; exact List.getElem_mem hr
  have a0 := ev_isState c p0.to hn
  have a1 := ev_isState c p1.to hn
  have m0 := ev_isMark c p0.put hst
  have m1 := ev_isMark c p1.put hst
  have b0 := ev_areStates c q0 (c.stack + 1) hn (sz_ckret hz mb (by simp))
  have b1 := ev_areStates c q1 (c.stack + 1) hn (sz_ckret hz mb (by simp))
  unfold okPsh
  simp at a0 a1 b0 b1 m0 m1
  cases h1 : inR p0.to 0 ((c.accept.length : Int) - 1)
  · simp [h1] at a0
    simp [l_impl_ValidChecker_0, lb_impl_ValidChecker_0, hs, hr, hc, hb, w1, w2, w3, w4, a0, rc1, h1]
  simp [h1] at a0
  cases h2 : inR p0.put 0 (c.stack - 1)
  · simp [h2] at m0
    simp [l_impl_ValidChecker_0, lb_impl_ValidChecker_0, hs, hr, hc, hb, w1, w2, w3, w4, a0, m0, rc1, h1, h2]
  simp [h2] at m0
  cases h3 : okSts c.accept.length (c.stack + 1) q0
  · simp [h3] at b0
    simp [l_impl_ValidChecker_0, lb_impl_ValidChecker_0, hs, hr, hc, hb, w1, w2, w3, w4, a0, m0, b0, rc1, h1, h2, h3]
  simp [h3] at b0
  cases h4 : inR p1.to 0 ((c.accept.length : Int) - 1)
  · simp [h4] at a1
    simp [l_impl_ValidChecker_0, lb_impl_ValidChecker_0, hs, hr, hc, hb, w1, w2, w3, w4, a0, m0, a1, b0, rc1, h1, h2, h3, h4]
  simp [h4] at a1
  cases h5 : inR p1.put 0 (c.stack - 1)
  · simp [h5] at m1
    simp [l_impl_ValidChecker_0, lb_impl_ValidChecker_0, hs, hr, hc, hb, w1, w2, w3, w4, a0, m0, a1, m1, b0, rc1, h1, h2, h3, h4, h5]
  simp [h5] at m1
  cases h6 : okSts c.accept.length (c.stack + 1) q1
  · simp [h6] at b1
    simp [l_impl_ValidChecker_0, lb_impl_ValidChecker_0, hs, hr, hc, hb, w1, w2, w3, w4, a0, m0, a1, m1, b0, b1, rc1, h1, h2, h3, h4, h5, h6]
  · simp [h6] at b1
    simp [l_impl_ValidChecker_0, lb_impl_ValidChecker_0, hs, hr, hc, hb, w1, w2, w3, w4, a0, m0, a1, m1, b0, b1, rc1, h1, h2, h3, h4, h5, h6]
set_option maxHeartbeats 2000000 in
theorem ev_impl_ValidChecker (c : GChecker) (hz : Siz.size c ≤ 1048576) : ev fns i_impl_ValidChecker [c.v] [] = some (bol (okCk c), []) := by
  refine go_impl_ValidChecker (by simp) ?_
  have z0 : ev fns i_impl_size_bool [lst 1 c.accept] [] = some (i64 c.accept.length, []) := by
    refine go_impl_size_bool (by simp) ?_
    simp [ac_impl_size_bool]
  have z1 : ev fns i_impl_size_L_impl_Push [lst 1 c.call] [] = some (i64 c.call.length, []) := by
    refine go_impl_size_L_impl_Push (by simp) ?_
    simp [ac_impl_size_L_impl_Push]
  have z2 : ev fns i_impl_size_L_L_int64 [lst 1 c.ret] [] = some (i64 c.ret.length, []) := by
    refine go_impl_size_L_L_int64 (by simp) ?_
    simp [ac_impl_size_L_L_int64]
  have z3 : ev fns i_impl_size_L_int64 [lst 1 c.inner] [] = some (i64 c.inner.length, []) := by
    refine go_impl_size_L_int64 (by simp) ?_
    simp [ac_impl_size_L_int64]
  simp at z0 z1 z2 z3
  unfold okCk
  cases h1 : inR c.accept.length 1 40
  · simp [ac_impl_ValidChecker, z0, h1]
  have h1' := h1
  simp only [inR, Bool.and_eq_true, decide_eq_true_eq] at h1'
  cases h2 : inR c.stack 1 80
  · simp [ac_impl_ValidChecker, z0, h1, h2]
  have a0 := ev_isState c c.start h1
  simp at a0
  cases h3 : inR c.start 0 ((c.accept.length : Int) - 1)
  · simp [h3] at a0; simp [ac_impl_ValidChecker, z0, h1, h2, a0]
  simp [h3] at a0
  by_cases h4 : c.call.length = c.accept.length
  rotate_left
  · simp [ac_impl_ValidChecker, z0, z1, h1, h2, a0, h4]
  by_cases h5 : c.ret.length = c.accept.length
  rotate_left
  · simp [ac_impl_ValidChecker, z0, z1, z2, h1, h2, a0, h4, h5]
  by_cases h6 : c.inner.length = c.accept.length
  rotate_left
  · simp [ac_impl_ValidChecker, z0, z1, z2, z3, h1, h2, a0, h4, h5, h6]
  have lo := fun ks => loop_below (F := fun s => rE fns fa_impl_ValidChecker 0 (.code lo_impl_ValidChecker_1 :: .inBlock 0 :: ks) [(50, i64 s), (49, i64 c.accept.length), (4, .fn i_impl_ValidChecker_1 [CkP c]), (1, CkP c)] []) (n := c.accept.length)
    (p := fun s => okCkRow c.accept.length c.stack (c.call.getD s []) (c.ret.getD s []) (c.inner.getD s [])) (e := rE fns fa_impl_ValidChecker 0 ks [] []) (r := some (bol false, []))
    (fun s hs0 => by
      have hs : s < c.call.length := by omega
      have hr : s < c.ret.length := by omega
      have hi : s < c.inner.length := by omega
      rw [getD_atC hs, getD_atC hr, getD_atC hi]
      have hw := wrap_i64 (n := s + 1) (by omega)
      have v4 := ev_areStates c c.inner[s] 2 h1 (sz_ckinn hz (List.getElem_mem hi))
      simp at v4
      rw [l_impl_ValidChecker_1]
      unfold okCkRow
      by_cases c1 : c.call[s].length = 2
      rotate_left
      · simp [lb_impl_ValidChecker_1, hs0, hs, hr, hi, c1, show ¬ ((c.call[s].length : Int) = 2) by omega]
      by_cases c2 : c.ret[s].length = 2
      rotate_left
      · simp [lb_impl_ValidChecker_1, hs0, hs, hr, hi, c1, c2, show ¬ ((c.ret[s].length : Int) = 2) by omega]
      cases c3 : okSts c.accept.length 2 c.inner[s]
      · simp [c3] at v4
        simp [lb_impl_ValidChecker_1, hs0, hs, hr, hi, c1, c2, c3, v4]
      simp [c3] at v4
      obtain ⟨p0, p1, hc⟩ := two_ofC c1
      obtain ⟨q0, q1, hb⟩ := two_ofC c2
      have lo := lo_VC_in c hz h1 h2 s hs hr p0 p1 q0 q1 hc hb
      cases c4 : okPsh c.accept.length c.stack p0 && okSts c.accept.length (c.stack + 1) q0 && okPsh c.accept.length c.stack p1 && okSts c.accept.length (c.stack + 1) q1
      · simp only [c4, Bool.false_eq_true, if_false] at lo
        simp at lo
        simp [lb_impl_ValidChecker_1, hs0, hs, hr, hi, hc, hb, c3, v4, lo]
        simp at c4
        grind
      · simp only [c4, if_true] at lo
        simp at lo
        simp at c4
        simp [lb_impl_ValidChecker_1, hs0, hs, hr, hi, hc, hb, c3, v4, lo, c4, hw])
    (by rw [l_impl_ValidChecker_1]; simp [lb_impl_ValidChecker_1])
  cases cc : (List.range c.accept.length).all fun s => okCkRow c.accept.length c.stack (c.call.getD s []) (c.ret.getD s []) (c.inner.getD s [])
  · simp only [cc, Bool.false_eq_true, if_false] at lo
    simp at lo
    simp [ac_impl_ValidChecker, z0, z1, z2, z3, h1, h2, a0, h4, h5, h6, lo]
  · simp only [cc, if_true] at lo
    simp at lo
    simp [ac_impl_ValidChecker, z0, z1, z2, z3, h1, h2, a0, h4, h5, h6, lo]

theorem ev_spec_l02List (l : List Int) (n many : Int) (hn : 0 ≤ n ∧ n ≤ 1048576) (hz : l.length ≤ 1048576) : ev fns i_spec_l02List [lst 1 l, i64 many, i64 n] [] = some (bol (okSts n many l), []) := by
  refine go_spec_l02List (by simp) ?_
  have w1 := wrap_i64 (n := n - 1) (by omega)
  have lo := fun ks => loop_forall (F := fun k => rE fns fa_spec_l02List 0 (.code lo_spec_l02List_0 :: .inBlock 0 :: ks) [(7, i64 k), (2, i64 n), (0, lst 1 l)] []) (a := l) (p := fun s => inR s 0 (n - 1))
    (e := rE fns fa_spec_l02List 0 ks [] []) (r := some (bol false, []))
    (fun k h => by
      have hw := wrap_i64 (n := k + 1) (by omega)
      rw [l_spec_l02List_0]
      refine ⟨fun c => ?_, fun c => ?_⟩ <;> simp [lb_spec_l02List_0, h, hw, w1, c])
    (by rw [l_spec_l02List_0]; simp [lb_spec_l02List_0])
  unfold okSts
  by_cases h1 : (l.length : Int) = many
  rotate_left
  · simp [ac_spec_l02List, h1]
  have h1t := eq_true h1
  cases c : l.all (fun s => inR s 0 (n - 1))
  · simp only [c, Bool.false_eq_true, if_false] at lo
    simp at lo
    simp [ac_spec_l02List, h1t, lo]
  · simp only [c, if_true] at lo
    simp at lo
    simp [ac_spec_l02List, h1t, lo]
set_option maxHeartbeats 2000000 in
theorem lo_SC_in (c : GChecker) (hz : Siz.size c ≤ 1048576) (n : Int) (hn : inR n 1 40 = true) (hst : inR c.stack 1 80 = true) (s : Nat) (hs : s < c.call.length) (hr : s < c.ret.length) (p0 p1 : GPush) (q0 q1 : List Int) (hc : c.call[s] = [p0, p1]) (hb : c.ret[s] = [q0, q1]) (ks : List KI) :
    rE fns fa_spec_l02Ok 0 (.code lo_spec_l02Ok_0 :: .inBlock 2 :: ks) [(5, i64 0), (4, i64 s), (3, i64 n), (0, CkP c)] [] =
      if (okPsh n c.stack p0 && okSts n (c.stack + 1) q0 && okPsh n c.stack p1 && okSts n (c.stack + 1) q1) = true then
        rE fns fa_spec_l02Ok 0 ks [(4, i64 s), (3, i64 n), (0, CkP c)] []
      else some (bol false, []) := by
  have hst' := hst
  simp only [inR, Bool.and_eq_true, decide_eq_true_eq] at hst'
  have hn' := hn
  simp only [inR, Bool.and_eq_true, decide_eq_true_eq] at hn'
  have w0 := wrap_i64 (n := n - 1) (by omega)
  have w1 := wrap_i64 (n := c.stack - 1) (by omega)
  have w2 := wrap_i64 (n := c.stack + 1) (by omega)
  have w3 := wrap_i64 (n := 2) (by omega)
  have w4 := wrap_i64 (n := 1) (by omega)
  have mb : [q0, q1] ∈ c.ret := by rw [← hb]; exact List.getElem_mem hr
  have b0 := ev_spec_l02List q0 n (c.stack + 1) (by omega) (sz_ckret hz mb (by simp))
  have b1 := ev_spec_l02List q1 n (c.stack + 1) (by omega) (sz_ckret hz mb (by simp))
  unfold okPsh
  simp at b0 b1
  cases h1 : inR p0.to 0 (n - 1)
  · simp [l_spec_l02Ok_0, lb_spec_l02Ok_0, hs, hr, hc, hb, w0, w1, w2, w3, w4, rc1, h1]
  cases h2 : inR p0.put 0 (c.stack - 1)
  · simp [l_spec_l02Ok_0, lb_spec_l02Ok_0, hs, hr, hc, hb, w0, w1, w2, w3, w4, rc1, h1, h2]
  cases h3 : okSts n (c.stack + 1) q0
  · simp [h3] at b0
    simp [l_spec_l02Ok_0, lb_spec_l02Ok_0, hs, hr, hc, hb, w0, w1, w2, w3, w4, b0, rc1, h1, h2, h3]
  simp [h3] at b0
  cases h4 : inR p1.to 0 (n - 1)
  · simp [l_spec_l02Ok_0, lb_spec_l02Ok_0, hs, hr, hc, hb, w0, w1, w2, w3, w4, b0, rc1, h1, h2, h3, h4]
  cases h5 : inR p1.put 0 (c.stack - 1)
  · simp [l_spec_l02Ok_0, lb_spec_l02Ok_0, hs, hr, hc, hb, w0, w1, w2, w3, w4, b0, rc1, h1, h2, h3, h4, h5]
  cases h6 : okSts n (c.stack + 1) q1
  · simp [h6] at b1
    simp [l_spec_l02Ok_0, lb_spec_l02Ok_0, hs, hr, hc, hb, w0, w1, w2, w3, w4, b0, b1, rc1, h1, h2, h3, h4, h5, h6]
  · simp [h6] at b1
    simp [l_spec_l02Ok_0, lb_spec_l02Ok_0, hs, hr, hc, hb, w0, w1, w2, w3, w4, b0, b1, rc1, h1, h2, h3, h4, h5, h6]
set_option maxHeartbeats 2000000 in
theorem ev_spec_l02Ok (c : GChecker) (hz : Siz.size c ≤ 1048576) : ev fns i_spec_l02Ok [CkP c] [] = some (bol (okCk c), []) := by
  refine go_spec_l02Ok (by simp) ?_
  unfold okCk
  cases h1 : inR c.accept.length 1 40
  · simp [ac_spec_l02Ok, h1]
  have h1' := h1
  simp only [inR, Bool.and_eq_true, decide_eq_true_eq] at h1'
  have w1 := wrap_i64 (n := (c.accept.length : Int) - 1) (by omega)
  cases h2 : inR c.stack 1 80
  · simp [ac_spec_l02Ok, h1, h2]
  cases h3 : inR c.start 0 ((c.accept.length : Int) - 1)
  · simp [ac_spec_l02Ok, h1, h2, h3, w1]
  by_cases h4 : c.call.length = c.accept.length
  rotate_left
  · simp [ac_spec_l02Ok, h1, h2, h3, w1, h4]
  by_cases h5 : c.ret.length = c.accept.length
  rotate_left
  · simp [ac_spec_l02Ok, h1, h2, h3, w1, h4, h5]
  by_cases h6 : c.inner.length = c.accept.length
  rotate_left
  · simp [ac_spec_l02Ok, h1, h2, h3, w1, h4, h5, h6]
  have lo := fun ks => loop_below (F := fun s => rE fns fa_spec_l02Ok 0 (.code lo_spec_l02Ok_1 :: .inBlock 0 :: ks) [(4, i64 s), (3, i64 c.accept.length), (0, CkP c)] []) (n := c.accept.length)
    (p := fun s => okCkRow c.accept.length c.stack (c.call.getD s []) (c.ret.getD s []) (c.inner.getD s [])) (e := rE fns fa_spec_l02Ok 0 ks [] []) (r := some (bol false, []))
    (fun s hs0 => by
      have hs : s < c.call.length := by omega
      have hr : s < c.ret.length := by omega
      have hi : s < c.inner.length := by omega
      rw [getD_atC hs, getD_atC hr, getD_atC hi]
      have hw := wrap_i64 (n := s + 1) (by omega)
      have v4 := ev_spec_l02List c.inner[s] c.accept.length 2 (by omega) (sz_ckinn hz (List.getElem_mem hi))
      simp at v4
      rw [l_spec_l02Ok_1]
      unfold okCkRow
      by_cases c1 : c.call[s].length = 2
      rotate_left
      · simp [lb_spec_l02Ok_1, hs0, hs, hr, hi, c1, show ¬ ((c.call[s].length : Int) = 2) by omega]
      by_cases c2 : c.ret[s].length = 2
      rotate_left
      · simp [lb_spec_l02Ok_1, hs0, hs, hr, hi, c1, c2, show ¬ ((c.ret[s].length : Int) = 2) by omega]
      cases c3 : okSts c.accept.length 2 c.inner[s]
      · simp [c3] at v4
        simp [lb_spec_l02Ok_1, hs0, hs, hr, hi, c1, c2, c3, v4]
      simp [c3] at v4
      obtain ⟨p0, p1, hc⟩ := two_ofC c1
      obtain ⟨q0, q1, hb⟩ := two_ofC c2
      have lo := lo_SC_in c hz c.accept.length h1 h2 s hs hr p0 p1 q0 q1 hc hb
      cases c4 : okPsh c.accept.length c.stack p0 && okSts c.accept.length (c.stack + 1) q0 && okPsh c.accept.length c.stack p1 && okSts c.accept.length (c.stack + 1) q1
      · simp only [c4, Bool.false_eq_true, if_false] at lo
        simp at lo
        simp [lb_spec_l02Ok_1, hs0, hs, hr, hi, hc, hb, c3, v4, lo]
        simp at c4
        grind
      · simp only [c4, if_true] at lo
        simp at lo
        simp at c4
        simp [lb_spec_l02Ok_1, hs0, hs, hr, hi, hc, hb, c3, v4, lo, c4, hw])
    (by rw [l_spec_l02Ok_1]; simp [lb_spec_l02Ok_1])
  cases cc : (List.range c.accept.length).all fun s => okCkRow c.accept.length c.stack (c.call.getD s []) (c.ret.getD s []) (c.inner.getD s [])
  · simp only [cc, Bool.false_eq_true, if_false] at lo
    simp at lo
    simp [ac_spec_l02Ok, h1, h2, h3, w1, h4, h5, h6, lo]
  · simp only [cc, if_true] at lo
    simp at lo
    simp [ac_spec_l02Ok, h1, h2, h3, w1, h4, h5, h6, lo]

/-! What a valid checker is. -/
theorem okCk_len {c : GChecker} (h : okCk c = true) : inR c.accept.length 1 40 = true ∧ inR c.stack 1 80 = true ∧ inR c.start 0 ((c.accept.length : Int) - 1) = true ∧ c.call.length = c.accept.length ∧ c.ret.length = c.accept.length ∧ c.inner.length = c.accept.length := by
  simp only [okCk, Bool.and_eq_true, decide_eq_true_eq] at h
  exact ⟨h.1.1.1.1.1.1, h.1.1.1.1.1.2, h.1.1.1.1.2, h.1.1.1.2, h.1.1.2, h.1.2⟩
theorem okCk_row {c : GChecker} (h : okCk c = true) {s : Nat} (hs0 : s < c.accept.length) (hs : s < c.call.length) (hr : s < c.ret.length) (hi : s < c.inner.length) : okCkRow c.accept.length c.stack c.call[s] c.ret[s] c.inner[s] = true := by
  simp only [okCk, Bool.and_eq_true, decide_eq_true_eq] at h
  have := List.all_eq_true.1 h.2 s (List.mem_range.2 hs0)
  rw [getD_atC hs, getD_atC hr, getD_atC hi] at this
  exact this
theorem okCkRow_two {n st : Int} {c : List GPush} {b : List (List Int)} {i : List Int} (h : okCkRow n st c b i = true) :
    ∃ p0 p1 q0 q1 i0 i1, c = [p0, p1] ∧ b = [q0, q1] ∧ i = [i0, i1] ∧ okPsh n st p0 = true ∧ okPsh n st p1 = true ∧ okSts n (st + 1) q0 = true ∧ okSts n (st + 1) q1 = true ∧ inR i0 0 (n - 1) = true ∧ inR i1 0 (n - 1) = true := by
  simp only [okCkRow, Bool.and_eq_true, decide_eq_true_eq] at h
  obtain ⟨⟨⟨⟨h1, h2⟩, h3⟩, h4⟩, h5⟩ := h
  obtain ⟨p0, p1, rfl⟩ := two_ofC h1
  obtain ⟨q0, q1, rfl⟩ := two_ofC h2
  simp only [okSts, Bool.and_eq_true, decide_eq_true_eq] at h3
  obtain ⟨i0, i1, rfl⟩ := two_ofC (show i.length = 2 by omega)
  simp at h3 h4 h5
  exact ⟨p0, p1, q0, q1, i0, i1, rfl, rfl, rfl, h4.1, h4.2, h5.1, h5.2, h3.1, h3.2⟩
end Go.Proofs.Ytoliadfdklfmfaa
