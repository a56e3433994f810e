/- Validity of checkers: the program's and the reference's. -/
import Derived.Test.YtegjfjckijmgcaaWord
import Derived.Test.YtegjfjckijmgcaaLoops2
import Derived.Test.YtegjfjckijmgcaaSls
set_option linter.unusedVariables false
set_option linter.unusedSimpArgs false
set_option maxRecDepth 100000
namespace Go.Proofs.Ytegjfjckijmgcaa
open Aw

def okSts (n many : Int) (l : List Int) : Bool := decide ((l.length : Int) = many) && l.all (fun s => inR s 0 (n - 1))
def okPsh (n st : Int) (p : GPush) : Bool := inR p.to 0 (n - 1) && inR p.put 0 (st - 1)
def okCkRow (n st : Int) (c : List GPush) (b : List (List Int)) (i : List Int) : Bool :=
  decide (c.length = 2) && decide (b.length = 2) && okSts n 2 i && c.all (okPsh n st) && b.all (okSts n (st + 1))
def okCk (c : GChecker) : Bool :=
  inR c.accept.length 1 40 && inR c.stack 1 80 && inR c.start 0 ((c.accept.length : Int) - 1) && decide (c.call.length = c.accept.length) && decide (c.ret.length = c.accept.length) && decide (c.inner.length = c.accept.length) &&
    (List.range c.accept.length).all fun s => okCkRow c.accept.length c.stack (c.call.getD s []) (c.ret.getD s []) (c.inner.getD s [])
theorem two_ofC {α : Type} {l : List α} (h : l.length = 2) : ∃ a b, l = [a, b] := by
  match l, h with
  | [a, b], _ => exact ⟨a, b, rfl⟩
theorem getD_atC {α : Type} {l : List α} {d : α} {s : Nat} (h : s < l.length) : l.getD s d = l[s] := by
  rw [List.getD_eq_getElem?_getD, List.getElem?_eq_getElem h]; rfl
@[simp] abbrev CkP (c : GChecker) : PV := .fptr [i64 c.stack, i64 c.start, lst 1 c.accept, lst 1 c.call, lst 1 c.ret, lst 1 c.inner] 0

theorem sz_ckret {c : GChecker} (hz : Siz.size c ≤ 1048576) {b : List (List Int)} (hb : b ∈ c.ret) {q : List Int} (hq : q ∈ b) : q.length ≤ 1048576 := by
  rw [size_Checker] at hz
  have h1 := Siz.mem_le hb
  have h2 := Siz.mem_le hq
  have h3 := Siz.len_le q
  omega
theorem sz_ckinn {c : GChecker} (hz : Siz.size c ≤ 1048576) {b : List Int} (hb : b ∈ c.inner) : b.length ≤ 1048576 := by
  rw [size_Checker] at hz
  have h1 := Siz.mem_le hb
  have h3 := Siz.len_le b
  omega
theorem ev_spec_l02List (l : List Int) (n many : Int) (hn : 0 ≤ n ∧ n ≤ 1048576) (hz : l.length ≤ 1048576) : ev fns i_spec_l02List [lst 1 l, i64 many, i64 n] [] = some (bol (okSts n many l), []) := by
  refine go_spec_l02List (by simp) ?_
  have w1 := wrap_i64 (n := n - 1) (by omega)
  have lo := fun ks => loop_forall (F := fun k => rE fns fa_spec_l02List 0 (.code lo_spec_l02List_0 :: .inBlock 0 :: ks) [(7, i64 k), (2, i64 n), (0, lst 1 l)] []) (a := l) (p := fun s => inR s 0 (n - 1))
    (e := rE fns fa_spec_l02List 0 ks [] []) (r := some (bol false, []))
    (fun k h => by
      have hw := wrap_i64 (n := k + 1) (by omega)
      rw [l_spec_l02List_0]
      refine ⟨fun c => ?_, fun c => ?_⟩ <;> simp [lb_spec_l02List_0, h, hw, w1, c])
    (by rw [l_spec_l02List_0]; simp [lb_spec_l02List_0])
  unfold okSts
  by_cases h1 : (l.length : Int) = many
  rotate_left
  · simp [ac_spec_l02List, h1]
  have h1t := eq_true h1
  cases c : l.all (fun s => inR s 0 (n - 1))
  · simp only [c, Bool.false_eq_true, if_false] at lo
    simp at lo
    simp [ac_spec_l02List, h1t, lo]
  · simp only [c, if_true] at lo
    simp at lo
    simp [ac_spec_l02List, h1t, lo]
/-! What a valid checker is. -/
theorem okCk_len {c : GChecker} (h : okCk c = true) : inR c.accept.length 1 40 = true ∧ inR c.stack 1 80 = true ∧ inR c.start 0 ((c.accept.length : Int) - 1) = true ∧ c.call.length = c.accept.length ∧ c.ret.length = c.accept.length ∧ c.inner.length = c.accept.length := by
  simp only [okCk, Bool.and_eq_true, decide_eq_true_eq] at h
  exact ⟨h.1.1.1.1.1.1, h.1.1.1.1.1.2, h.1.1.1.1.2, h.1.1.1.2, h.1.1.2, h.1.2⟩
theorem okCk_row {c : GChecker} (h : okCk c = true) {s : Nat} (hs0 : s < c.accept.length) (hs : s < c.call.length) (hr : s < c.ret.length) (hi : s < c.inner.length) : okCkRow c.accept.length c.stack c.call[s] c.ret[s] c.inner[s] = true := by
  simp only [okCk, Bool.and_eq_true, decide_eq_true_eq] at h
  have := List.all_eq_true.1 h.2 s (List.mem_range.2 hs0)
  rw [getD_atC hs, getD_atC hr, getD_atC hi] at this
  exact this
theorem okCkRow_two {n st : Int} {c : List GPush} {b : List (List Int)} {i : List Int} (h : okCkRow n st c b i = true) :
    ∃ p0 p1 q0 q1 i0 i1, c = [p0, p1] ∧ b = [q0, q1] ∧ i = [i0, i1] ∧ okPsh n st p0 = true ∧ okPsh n st p1 = true ∧ okSts n (st + 1) q0 = true ∧ okSts n (st + 1) q1 = true ∧ inR i0 0 (n - 1) = true ∧ inR i1 0 (n - 1) = true := by
  simp only [okCkRow, Bool.and_eq_true, decide_eq_true_eq] at h
  obtain ⟨⟨⟨⟨h1, h2⟩, h3⟩, h4⟩, h5⟩ := h
  obtain ⟨p0, p1, rfl⟩ := two_ofC h1
  obtain ⟨q0, q1, rfl⟩ := two_ofC h2
  simp only [okSts, Bool.and_eq_true, decide_eq_true_eq] at h3
  obtain ⟨i0, i1, rfl⟩ := two_ofC (show i.length = 2 by omega)
  simp at h3 h4 h5
  exact ⟨p0, p1, q0, q1, i0, i1, rfl, rfl, rfl, h4.1, h4.2, h5.1, h5.2, h3.1, h3.2⟩
end Go.Proofs.Ytegjfjckijmgcaa
