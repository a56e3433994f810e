/- Validity of rewriters: the program's and the reference's; the law FnExactValidRewriter, run. -/
import Derived.Test.YtjfpmpbdbpgofaaWord
import Derived.Test.YtjfpmpbdbpgofaaExact
import Derived.Test.YtjfpmpbdbpgofaaSls
set_option linter.unusedVariables false
set_option linter.unusedSimpArgs false
set_option maxRecDepth 100000
namespace Go.Proofs.Ytjfpmpbdbpgofaa
open Aw

def okOut (t : ByteArray) : Bool := okWord t && decide (t.size ≤ 4)
def okMove (n : Int) (m : GOutMove) : Bool := inR m.to 0 (n - 1) && okOut m.out
def okMoves (n many : Int) (l : List GOutMove) : Bool := decide ((l.length : Int) = many) && l.all (okMove n)
def okPush (n st : Int) (p : GOutPush) : Bool := inR p.to 0 (n - 1) && okOut p.out && inR p.put 0 (st - 1)
def okRow (n st : Int) (c : List GOutPush) (b : List (List GOutMove)) (i : List GOutMove) : Bool :=
  decide (c.length = 2) && decide (b.length = 2) && okMoves n 2 i && c.all (okPush n st) && b.all (okMoves n (st + 1))
def okRw (r : GRewriter) : Bool :=
  inR r.call.length 1 8 && inR r.stack 1 8 && inR r.start 0 ((r.call.length : Int) - 1) && decide (r.ret.length = r.call.length) && decide (r.inner.length = r.call.length) &&
    (List.range r.call.length).all fun s => okRow r.call.length r.stack (r.call.getD s []) (r.ret.getD s []) (r.inner.getD s [])
theorem two_of {α : Type} {l : List α} (h : l.length = 2) : ∃ a b, l = [a, b] := by
  match l, h with
  | [a, b], _ => exact ⟨a, b, rfl⟩
theorem getD_at {α : Type} {l : List α} {d : α} {s : Nat} (h : s < l.length) : l.getD s d = l[s] := by
  rw [List.getD_eq_getElem?_getD, List.getElem?_eq_getElem h]; rfl

@[simp] theorem ev_impl_isOut (t : ByteArray) (hz : t.size ≤ 1048576) : ev fns i_impl_isOut [str t] [] = some (bol (okOut t), []) := by
  refine go_impl_isOut (by simp) ?_
  have v := ev_impl_ValidWord t (by omega)
  simp at v
  have e : (((t.size : Nat) : Int) ≤ 4) = (t.size ≤ 4) := by apply propext; omega
  unfold okOut
  cases h : okWord t <;> simp [h] at v <;> simp [ac_impl_isOut, v, e]
@[simp] theorem ev_spec_l06Out (t : ByteArray) (hz : t.size ≤ 1048576) : ev fns i_spec_l06Out [str t] [] = some (bol (okOut t), []) := by
  refine go_spec_l06Out (by simp) ?_
  have v := ev_spec_l01Ok t (by omega)
  simp at v
  unfold okOut
  by_cases h : t.size ≤ 4
  · simp [ac_spec_l06Out, v, h, show ((t.size : Int) ≤ 4) by omega]
  · simp [ac_spec_l06Out, v, h, show ¬ ((t.size : Int) ≤ 4) by omega]

theorem ev_isMove (m : GOutMove) (n : Int) (hn : inR n 1 8 = true) (hz : m.out.size ≤ 1048576) : ev fns i_impl_ValidRewriter_1 [m.v, .fptr [i64 n] 0] [] = some (bol (okMove n m), []) := by
  simp only [inR, Bool.and_eq_true, decide_eq_true_eq] at hn
  have w1 := wrap_i64 (n := n - 1) (by omega)
  have v := ev_impl_isOut m.out hz
  simp at v
  refine go_impl_ValidRewriter_1 (by simp) ?_
  unfold okMove
  cases h1 : inR m.to 0 (n - 1) <;> simp [ac_impl_ValidRewriter_1, w1, v, h1]
theorem ev_notMove (m : GOutMove) (n : Int) (hn : inR n 1 8 = true) (hz : m.out.size ≤ 1048576) : ev fns i_impl_ValidRewriter_2_1 [m.v, .fptr [.fn i_impl_ValidRewriter_1 [.fptr [i64 n] 0]] 0] [] = some (bol (!okMove n m), []) := by
  have v := ev_isMove m n hn hz
  simp at v
  refine go_impl_ValidRewriter_2_1 (by simp) ?_
  simp [ac_impl_ValidRewriter_2_1, v]
theorem ev_areMoves (l : List GOutMove) (n many : Int) (hn : inR n 1 8 = true) (hz : Siz.size l ≤ 1048576) : ev fns i_impl_ValidRewriter_2 [lst 2 l, i64 many, .fptr [.fn i_impl_ValidRewriter_1 [.fptr [i64 n] 0]] 0] [] = some (bol (okMoves n many l), []) := by
  have hl := Siz.len_le l
  have hs : ev fns i_impl_size_impl_OutMove [lst 2 l] [] = some (i64 l.length, []) := by
    refine go_impl_size_impl_OutMove (by simp) ?_
    simp [ac_impl_size_impl_OutMove]
  simp at hs
  have hc := ev_ContainsFunc_OutMove l i_impl_ValidRewriter_2_1 [.fptr [.fn i_impl_ValidRewriter_1 [.fptr [i64 n] 0]] 0] (by simp) (fun m => !okMove n m) (by omega) (fun m hm => by
    have := ev_notMove m n hn (by have := Siz.mem_le hm; rw [size_OutMove, size_str] at this; omega)
    simp at this
    simp [this])
  simp [any_not_all] at hc
  refine go_impl_ValidRewriter_2 (by simp) ?_
  unfold okMoves
  by_cases h1 : (l.length : Int) = many
  · simp [ac_impl_ValidRewriter_2, hs, hc, h1]
  · simp [ac_impl_ValidRewriter_2, hs, hc, h1]
theorem ev_size_OPS (a : List (List GOutPush)) : ev fns i_impl_size_L_impl_OutPush [lst 1 a] [] = some (i64 a.length, []) := by
  refine go_impl_size_L_impl_OutPush (by simp) ?_
  simp [ac_impl_size_L_impl_OutPush]
theorem ev_size_OMSS (a : List (List (List GOutMove))) : ev fns i_impl_size_L_L_impl_OutMove [lst 1 a] [] = some (i64 a.length, []) := by
  refine go_impl_size_L_L_impl_OutMove (by simp) ?_
  simp [ac_impl_size_L_L_impl_OutMove]
theorem ev_size_OMS (a : List (List GOutMove)) : ev fns i_impl_size_L_impl_OutMove [lst 1 a] [] = some (i64 a.length, []) := by
  refine go_impl_size_L_impl_OutMove (by simp) ?_
  simp [ac_impl_size_L_impl_OutMove]

abbrev vrO (n : Int) : List AObj := [.row 1 [i64 n] 0, .row 1 [.fn i_impl_ValidRewriter_1 [.ptr 0 0 0 0]] 0]
@[simp] abbrev RwF (r : GRewriter) : PV := .fptr [i64 r.stack, i64 r.start, lst 1 r.call, lst 1 r.ret, lst 1 r.inner] 0
theorem sz_call {r : GRewriter} (hz : Siz.size r ≤ 1048576) {c : List GOutPush} (hc : c ∈ r.call) {p : GOutPush} (hp : p ∈ c) : p.out.size ≤ 1048576 := by
  rw [size_Rewriter] at hz
  have h1 := Siz.mem_le hc
  have h2 := Siz.mem_le hp
  rw [size_OutPush, size_str] at h2; omega
theorem sz_ret {r : GRewriter} (hz : Siz.size r ≤ 1048576) {b : List (List GOutMove)} (hb : b ∈ r.ret) {q : List GOutMove} (hq : q ∈ b) : Siz.size q ≤ 1048576 := by
  rw [size_Rewriter] at hz
  have h1 := Siz.mem_le hb
  have h2 := Siz.mem_le hq
  omega
theorem sz_inn {r : GRewriter} (hz : Siz.size r ≤ 1048576) {b : List GOutMove} (hb : b ∈ r.inner) : Siz.size b ≤ 1048576 := by
  rw [size_Rewriter] at hz
  have h1 := Siz.mem_le hb
  omega
set_option maxHeartbeats 2000000 in
theorem lo_VR_in (r : GRewriter) (hz : Siz.size r ≤ 1048576) (n : Int) (hn : inR n 1 8 = true) (hst : inR r.stack 1 8 = true) (s : Nat) (hs : s < r.call.length) (hr : s < r.ret.length) (p0 p1 : GOutPush) (q0 q1 : List GOutMove) (hc : r.call[s] = [p0, p1]) (hb : r.ret[s] = [q0, q1]) (ks : List KI) :
    rE fns fa_impl_ValidRewriter 0 (.code lo_impl_ValidRewriter_0 :: .inBlock 2 :: ks) [(75, i64 0), (46, i64 s), (45, i64 n), (6, i64 s), (5, .fn i_impl_ValidRewriter_2 [.ptr 1 0 0 0]), (4, .ptr 1 0 0 0), (1, RwF r)] (vrO n) =
      if (okPush n r.stack p0 && okMoves n (r.stack + 1) q0 && okPush n r.stack p1 && okMoves n (r.stack + 1) q1) = true then
        rE fns fa_impl_ValidRewriter 0 ks [(46, i64 s), (45, i64 n), (5, .fn i_impl_ValidRewriter_2 [.ptr 1 0 0 0]), (4, .ptr 1 0 0 0), (1, RwF r)] (vrO n)
      else some (bol false, []) := by
  have hst' := hst
  simp only [inR, Bool.and_eq_true, decide_eq_true_eq] at hst'
  have w1 := wrap_i64 (n := r.stack - 1) (by omega)
  have w2 := wrap_i64 (n := r.stack + 1) (by omega)
  have w3 := wrap_i64 (n := 2) (by omega)
  have w4 := wrap_i64 (n := 1) (by omega)
  have mc : [p0, p1] ∈ r.call := by rw [← hc]; exact List.getElem_mem hs
  have mb : [q0, q1] ∈ r.ret := by rw [← hb]; exact List.getElem_mem hr
  have a0 := ev_isMove ⟨p0.to, p0.out⟩ n hn (sz_call hz mc (by simp))
  have a1 := ev_isMove ⟨p1.to, p1.out⟩ n hn (sz_call hz mc (by simp))
  have b0 := ev_areMoves q0 n (r.stack + 1) hn (sz_ret hz mb (by simp))
  have b1 := ev_areMoves q1 n (r.stack + 1) hn (sz_ret hz mb (by simp))
  unfold okPush
  simp only [okMove] at a0 a1
  simp at a0 a1 b0 b1
  cases h1 : inR p0.to 0 (n - 1) && okOut p0.out
  · simp [h1] at a0
    simp [l_impl_ValidRewriter_0, lb_impl_ValidRewriter_0, hs, hr, hc, hb, w1, w2, w3, w4, a0, rc1, h1]
  simp [h1] at a0
  cases h2 : inR p0.put 0 (r.stack - 1)
  · simp [l_impl_ValidRewriter_0, lb_impl_ValidRewriter_0, hs, hr, hc, hb, w1, w2, w3, w4, a0, rc1, h1, h2]
  cases h3 : okMoves n (r.stack + 1) q0
  · simp [h3] at b0
    simp [l_impl_ValidRewriter_0, lb_impl_ValidRewriter_0, hs, hr, hc, hb, w1, w2, w3, w4, a0, b0, rc1, h1, h2, h3]
  simp [h3] at b0
  cases h4 : inR p1.to 0 (n - 1) && okOut p1.out
  · simp [h4] at a1
    simp [l_impl_ValidRewriter_0, lb_impl_ValidRewriter_0, hs, hr, hc, hb, w1, w2, w3, w4, a0, a1, b0, rc1, h1, h2, h3, h4]
  simp [h4] at a1
  cases h5 : inR p1.put 0 (r.stack - 1)
  · simp [l_impl_ValidRewriter_0, lb_impl_ValidRewriter_0, hs, hr, hc, hb, w1, w2, w3, w4, a0, a1, b0, rc1, h1, h2, h3, h4, h5]
  cases h6 : okMoves n (r.stack + 1) q1
  · simp [h6] at b1
    simp [l_impl_ValidRewriter_0, lb_impl_ValidRewriter_0, hs, hr, hc, hb, w1, w2, w3, w4, a0, a1, b0, b1, rc1, h1, h2, h3, h4, h5, h6]
  · simp [h6] at b1
    simp [l_impl_ValidRewriter_0, lb_impl_ValidRewriter_0, hs, hr, hc, hb, w1, w2, w3, w4, a0, a1, b0, b1, rc1, h1, h2, h3, h4, h5, h6]
set_option maxHeartbeats 1000000 in
theorem ev_impl_ValidRewriter (r : GRewriter) (hz : Siz.size r ≤ 1048576) : ev fns i_impl_ValidRewriter [r.v] [] = some (bol (okRw r), []) := by
  refine go_impl_ValidRewriter (by simp) ?_
  have hz0 := hz
  rw [size_Rewriter] at hz
  have v1 := ev_size_OPS r.call
  have v2 := ev_size_OMSS r.ret
  have v3 := ev_size_OMS r.inner
  simp at v1 v2 v3
  unfold okRw
  cases h1 : inR r.call.length 1 8
  · simp [ac_impl_ValidRewriter, v1, h1]
  have h1' := h1
  simp only [inR, Bool.and_eq_true, decide_eq_true_eq] at h1'
  have w1 := wrap_i64 (n := (r.call.length : Int) - 1) (by omega)
  cases h2 : inR r.stack 1 8
  · simp [ac_impl_ValidRewriter, v1, h1, h2]
  have h2' := h2
  simp only [inR, Bool.and_eq_true, decide_eq_true_eq] at h2'
  cases h3 : inR r.start 0 ((r.call.length : Int) - 1)
  · simp [ac_impl_ValidRewriter, v1, h1, h2, h3, w1, rc1]
  by_cases h4 : r.ret.length = r.call.length
  rotate_left
  · simp [ac_impl_ValidRewriter, v1, v2, h1, h2, h3, h4, w1, rc1]
  by_cases h5 : r.inner.length = r.call.length
  rotate_left
  · simp [ac_impl_ValidRewriter, v1, v2, v3, h1, h2, h3, h4, h5, w1, rc1]
  have lo := fun ks => loop_below (F := fun s => rE fns fa_impl_ValidRewriter 0 (.code lo_impl_ValidRewriter_1 :: .inBlock 0 :: ks) [(46, i64 s), (45, i64 r.call.length), (5, .fn i_impl_ValidRewriter_2 [.ptr 1 0 0 0]), (4, .ptr 1 0 0 0), (1, RwF r)] (vrO r.call.length)) (n := r.call.length)
    (p := fun s => okRow r.call.length r.stack (r.call.getD s []) (r.ret.getD s []) (r.inner.getD s [])) (e := rE fns fa_impl_ValidRewriter 0 ks [] (vrO r.call.length)) (r := some (bol false, []))
    (fun s hs => by
      have hr : s < r.ret.length := by omega
      have hi : s < r.inner.length := by omega
      rw [getD_at hs, getD_at hr, getD_at hi]
      have hw := wrap_i64 (n := s + 1) (by omega)
      have v4 := ev_areMoves r.inner[s] r.call.length 2 h1 (sz_inn hz0 (List.getElem_mem hi))
      simp at v4
      rw [l_impl_ValidRewriter_1]
      unfold okRow
      by_cases c1 : r.call[s].length = 2
      rotate_left
      · simp [lb_impl_ValidRewriter_1, hs, hr, hi, c1, show ¬ ((r.call[s].length : Int) = 2) by omega]
      by_cases c2 : r.ret[s].length = 2
      rotate_left
      · simp [lb_impl_ValidRewriter_1, hs, hr, hi, c1, c2, show ¬ ((r.ret[s].length : Int) = 2) by omega]
      cases c3 : okMoves r.call.length 2 r.inner[s]
      · simp [c3] at v4
        simp [lb_impl_ValidRewriter_1, hs, hr, hi, c1, c2, c3, v4]
      simp [c3] at v4
      obtain ⟨p0, p1, hc⟩ := two_of c1
      obtain ⟨q0, q1, hb⟩ := two_of c2
      have lo := lo_VR_in r hz0 r.call.length h1 h2 s hs hr p0 p1 q0 q1 hc hb
      cases c4 : okPush r.call.length r.stack p0 && okMoves r.call.length (r.stack + 1) q0 && okPush r.call.length r.stack p1 && okMoves r.call.length (r.stack + 1) q1
      · simp only [c4, Bool.false_eq_true, if_false] at lo
        simp at lo
        simp [lb_impl_ValidRewriter_1, hs, hr, hi, hc, hb, c3, v4, lo]
        simp at c4
        grind
      · simp only [c4, if_true] at lo
        simp at lo
        simp at c4
        simp [lb_impl_ValidRewriter_1, hs, hr, hi, hc, hb, c3, v4, lo, c4, hw])
    (by rw [l_impl_ValidRewriter_1]; simp [lb_impl_ValidRewriter_1])
  cases c : (List.range r.call.length).all fun s => okRow r.call.length r.stack (r.call.getD s []) (r.ret.getD s []) (r.inner.getD s [])
  · simp only [c, Bool.false_eq_true, if_false] at lo
    simp at lo
    simp [ac_impl_ValidRewriter, v1, v2, v3, h1, h2, h3, h4, h5, w1, rc1, lo]
  · simp only [c, if_true] at lo
    simp at lo
    simp [ac_impl_ValidRewriter, v1, v2, v3, h1, h2, h3, h4, h5, w1, rc1, lo]

theorem ev_spec_l06Moves (l : List GOutMove) (n many : Int) (hn : inR n 1 8 = true) (hz : Siz.size l ≤ 1048576) : ev fns i_spec_l06Moves [lst 2 l, i64 many, i64 n] [] = some (bol (okMoves n many l), []) := by
  refine go_spec_l06Moves (by simp) ?_
  have hn' := hn
  simp only [inR, Bool.and_eq_true, decide_eq_true_eq] at hn'
  have hl := Siz.len_le l
  have w1 := wrap_i64 (n := n - 1) (by omega)
  have lo := fun ks => loop_forall (F := fun k => rE fns fa_spec_l06Moves 0 (.code lo_spec_l06Moves_0 :: .inBlock 0 :: ks) [(7, i64 k), (2, i64 n), (1, i64 many), (0, lst 2 l)] []) (a := l) (p := okMove n)
    (e := rE fns fa_spec_l06Moves 0 ks [(1, i64 many), (0, lst 2 l)] []) (r := some (bol false, []))
    (fun k h => by
      have hw := wrap_i64 (n := k + 1) (by omega)
      have v := ev_spec_l06Out l[k].out (by have := Siz.mem_le (List.getElem_mem h); rw [size_OutMove, size_str] at this; omega)
      simp at v
      rw [l_spec_l06Moves_0]
      unfold okMove
      cases h1 : inR l[k].to 0 (n - 1)
      · simp [lb_spec_l06Moves_0, h, hw, w1, h1]
      · cases h2 : okOut l[k].out
        · simp [h2] at v; simp [lb_spec_l06Moves_0, h, hw, w1, h1, v]
        · simp [h2] at v; simp [lb_spec_l06Moves_0, h, hw, w1, h1, v])
    (by rw [l_spec_l06Moves_0]; simp [lb_spec_l06Moves_0])
  unfold okMoves
  cases c : l.all (okMove n)
  · simp only [c, Bool.false_eq_true, if_false] at lo
    simp at lo
    simp [ac_spec_l06Moves, lo]
  · simp only [c, if_true] at lo
    simp at lo
    simp [ac_spec_l06Moves, lo]
set_option maxHeartbeats 2000000 in
theorem lo_SOk_in (r : GRewriter) (hz : Siz.size r ≤ 1048576) (n : Int) (hn : inR n 1 8 = true) (hst : inR r.stack 1 8 = true) (s : Nat) (hs : s < r.call.length) (hr : s < r.ret.length) (p0 p1 : GOutPush) (q0 q1 : List GOutMove) (hc : r.call[s] = [p0, p1]) (hb : r.ret[s] = [q0, q1]) (ks : List KI) :
    rE fns fa_spec_l06Ok 0 (.code lo_spec_l06Ok_0 :: .inBlock 2 :: ks) [(5, i64 0), (4, i64 s), (3, i64 n), (0, RwF r)] [] =
      if (okPush n r.stack p0 && okMoves n (r.stack + 1) q0 && okPush n r.stack p1 && okMoves n (r.stack + 1) q1) = true then
        rE fns fa_spec_l06Ok 0 ks [(4, i64 s), (3, i64 n), (0, RwF r)] []
      else some (bol false, []) := by
  have hst' := hst
  simp only [inR, Bool.and_eq_true, decide_eq_true_eq] at hst'
  have hn' := hn
  simp only [inR, Bool.and_eq_true, decide_eq_true_eq] at hn'
  have w0 := wrap_i64 (n := n - 1) (by omega)
  have w1 := wrap_i64 (n := r.stack - 1) (by omega)
  have w2 := wrap_i64 (n := r.stack + 1) (by omega)
  have w3 := wrap_i64 (n := 2) (by omega)
  have w4 := wrap_i64 (n := 1) (by omega)
  have mc : [p0, p1] ∈ r.call := by rw [← hc]; exact List.getElem_mem hs
  have mb : [q0, q1] ∈ r.ret := by rw [← hb]; exact List.getElem_mem hr
  have a0 := ev_spec_l06Out p0.out (sz_call hz mc (by simp))
  have a1 := ev_spec_l06Out p1.out (sz_call hz mc (by simp))
  have b0 := ev_spec_l06Moves q0 n (r.stack + 1) hn (sz_ret hz mb (by simp))
  have b1 := ev_spec_l06Moves q1 n (r.stack + 1) hn (sz_ret hz mb (by simp))
  unfold okPush
  simp at a0 a1 b0 b1
  cases h0 : inR p0.to 0 (n - 1)
  · simp [l_spec_l06Ok_0, lb_spec_l06Ok_0, hs, hr, hc, hb, w0, w1, w2, w3, w4, rc1, h0]
  cases h2 : inR p0.put 0 (r.stack - 1)
  · simp [l_spec_l06Ok_0, lb_spec_l06Ok_0, hs, hr, hc, hb, w0, w1, w2, w3, w4, a0, rc1, h0, h2]
  cases h1 : okOut p0.out
  · simp [h1] at a0
    simp [l_spec_l06Ok_0, lb_spec_l06Ok_0, hs, hr, hc, hb, w0, w1, w2, w3, w4, a0, rc1, h0, h1, h2]
  simp [h1] at a0
  cases h3 : okMoves n (r.stack + 1) q0
  · simp [h3] at b0
    simp [l_spec_l06Ok_0, lb_spec_l06Ok_0, hs, hr, hc, hb, w0, w1, w2, w3, w4, a0, b0, rc1, h0, h1, h2, h3]
  simp [h3] at b0
  cases k0 : inR p1.to 0 (n - 1)
  · simp [l_spec_l06Ok_0, lb_spec_l06Ok_0, hs, hr, hc, hb, w0, w1, w2, w3, w4, a0, b0, rc1, h0, h1, h2, h3, k0]
  cases h5 : inR p1.put 0 (r.stack - 1)
  · simp [l_spec_l06Ok_0, lb_spec_l06Ok_0, hs, hr, hc, hb, w0, w1, w2, w3, w4, a0, a1, b0, rc1, h0, h1, h2, h3, k0, h5]
  cases h4 : okOut p1.out
  · simp [h4] at a1
    simp [l_spec_l06Ok_0, lb_spec_l06Ok_0, hs, hr, hc, hb, w0, w1, w2, w3, w4, a0, a1, b0, rc1, h0, h1, h2, h3, k0, h4, h5]
  simp [h4] at a1
  cases h6 : okMoves n (r.stack + 1) q1
  · simp [h6] at b1
    simp [l_spec_l06Ok_0, lb_spec_l06Ok_0, hs, hr, hc, hb, w0, w1, w2, w3, w4, a0, a1, b0, b1, rc1, h0, h1, h2, h3, k0, h4, h5, h6]
  · simp [h6] at b1
    simp [l_spec_l06Ok_0, lb_spec_l06Ok_0, hs, hr, hc, hb, w0, w1, w2, w3, w4, a0, a1, b0, b1, rc1, h0, h1, h2, h3, k0, h4, h5, h6]
set_option maxHeartbeats 2000000 in
theorem ev_spec_l06Ok (r : GRewriter) (hz : Siz.size r ≤ 1048576) : ev fns i_spec_l06Ok [RwF r] [] = some (bol (okRw r), []) := by
  refine go_spec_l06Ok (by simp) ?_
  have hz0 := hz
  rw [size_Rewriter] at hz
  unfold okRw
  cases h1 : inR r.call.length 1 8
  · simp [ac_spec_l06Ok, h1]
  have h1' := h1
  simp only [inR, Bool.and_eq_true, decide_eq_true_eq] at h1'
  have w1 := wrap_i64 (n := (r.call.length : Int) - 1) (by omega)
  cases h2 : inR r.stack 1 8
  · simp [ac_spec_l06Ok, h1, h2]
  cases h3 : inR r.start 0 ((r.call.length : Int) - 1)
  · simp [ac_spec_l06Ok, h1, h2, h3, w1]
  by_cases h4 : r.ret.length = r.call.length
  rotate_left
  · simp [ac_spec_l06Ok, h1, h2, h3, h4, w1]
  by_cases h5 : r.inner.length = r.call.length
  rotate_left
  · simp [ac_spec_l06Ok, h1, h2, h3, h4, h5, w1]
  have lo := fun ks => loop_below (F := fun s => rE fns fa_spec_l06Ok 0 (.code lo_spec_l06Ok_1 :: .inBlock 0 :: ks) [(4, i64 s), (3, i64 r.call.length), (0, RwF r)] []) (n := r.call.length)
    (p := fun s => okRow r.call.length r.stack (r.call.getD s []) (r.ret.getD s []) (r.inner.getD s [])) (e := rE fns fa_spec_l06Ok 0 ks [] []) (r := some (bol false, []))
    (fun s hs => by
      have hr : s < r.ret.length := by omega
      have hi : s < r.inner.length := by omega
      rw [getD_at hs, getD_at hr, getD_at hi]
      have hw := wrap_i64 (n := s + 1) (by omega)
      have v4 := ev_spec_l06Moves r.inner[s] r.call.length 2 h1 (sz_inn hz0 (List.getElem_mem hi))
      simp at v4
      rw [l_spec_l06Ok_1]
      unfold okRow
      by_cases c1 : r.call[s].length = 2
      rotate_left
      · simp [lb_spec_l06Ok_1, hs, hr, hi, c1, show ¬ ((r.call[s].length : Int) = 2) by omega]
      by_cases c2 : r.ret[s].length = 2
      rotate_left
      · simp [lb_spec_l06Ok_1, hs, hr, hi, c1, c2, show ¬ ((r.ret[s].length : Int) = 2) by omega]
      cases c3 : okMoves r.call.length 2 r.inner[s]
      · simp [c3] at v4
        simp [lb_spec_l06Ok_1, hs, hr, hi, c1, c2, c3, v4]
      simp [c3] at v4
      obtain ⟨p0, p1, hc⟩ := two_of c1
      obtain ⟨q0, q1, hb⟩ := two_of c2
      have lo := lo_SOk_in r hz0 r.call.length h1 h2 s hs hr p0 p1 q0 q1 hc hb
      cases c4 : okPush r.call.length r.stack p0 && okMoves r.call.length (r.stack + 1) q0 && okPush r.call.length r.stack p1 && okMoves r.call.length (r.stack + 1) q1
      · simp only [c4, Bool.false_eq_true, if_false] at lo
        simp at lo
        simp [lb_spec_l06Ok_1, hs, hr, hi, hc, hb, c3, v4, lo]
        simp at c4
        grind
      · simp only [c4, if_true] at lo
        simp at lo
        simp at c4
        simp [lb_spec_l06Ok_1, hs, hr, hi, hc, hb, c3, v4, lo, c4, hw])
    (by rw [l_spec_l06Ok_1]; simp [lb_spec_l06Ok_1])
  cases c : (List.range r.call.length).all fun s => okRow r.call.length r.stack (r.call.getD s []) (r.ret.getD s []) (r.inner.getD s [])
  · simp only [c, Bool.false_eq_true, if_false] at lo
    simp at lo
    simp [ac_spec_l06Ok, h1, h2, h3, h4, h5, w1, lo]
  · simp only [c, if_true] at lo
    simp at lo
    simp [ac_spec_l06Ok, h1, h2, h3, h4, h5, w1, lo]
@[simp] theorem tyR_OutPushS : (PV.ty (.lst 3 .any) ∘ (Enc.pv : List GOutPush → PV)) = Enc.pv := by funext x; simp
@[simp] theorem tyR_OutMoveS : (PV.ty (.lst 2 .any) ∘ (Enc.pv : List GOutMove → PV)) = Enc.pv := by funext x; simp
@[simp] theorem tyR_OutMoveSS : (PV.ty (.lst 1 (.lst 2 .any)) ∘ (Enc.pv : List (List GOutMove) → PV)) = Enc.pv := by funext x; simp
end Go.Proofs.Ytjfpmpbdbpgofaa
