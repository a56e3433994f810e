/- Checkers step by step: the program's and the reference's. -/
import Derived.Test.YtoliadfdklfmfaaValidCk
import Derived.Test.YtoliadfdklfmfaaWord2
set_option linter.unusedVariables false
set_option linter.unusedSimpArgs false
set_option maxRecDepth 100000
namespace Go.Proofs.Ytoliadfdklfmfaa
open Aw

abbrev CSt := Int × List Int
/-- Where a symbol leads. -/
def stepC (c : GChecker) (s : CSt) (ch : Int) : CSt :=
  let k := (symIx ch).toNat % 2
  if isCallB ch = true then
    (((c.call.getD s.1.toNat []).getD k ⟨0, 0⟩).to, s.2 ++ [((c.call.getD s.1.toNat []).getD k ⟨0, 0⟩).put])
  else if isInnB ch = true then ((c.inner.getD s.1.toNat []).getD k 0, s.2)
  else match s.2.getLast? with
    | some m => (((c.ret.getD s.1.toNat []).getD k []).getD m.toNat 0, s.2.dropLast)
    | none => (((c.ret.getD s.1.toNat []).getD k []).getD c.stack.toNat 0, s.2)
structure CkI (c : GChecker) (L : Nat) (s : CSt) : Prop where
  st : inR s.1 0 ((c.accept.length : Int) - 1) = true
  mks : ∀ m ∈ s.2, inR m 0 (c.stack - 1) = true
  ln : s.2.length ≤ L
theorem okPsh_to {n st : Int} {p : GPush} (h : okPsh n st p = true) : inR p.to 0 (n - 1) = true ∧ inR p.put 0 (st - 1) = true := by
  simpa only [okPsh, Bool.and_eq_true] using h
theorem okSts_at {n many : Int} {l : List Int} (h : okSts n many l = true) : (l.length : Int) = many ∧ ∀ x ∈ l, inR x 0 (n - 1) = true := by
  simp only [okSts, Bool.and_eq_true, decide_eq_true_eq, List.all_eq_true] at h
  exact h
theorem inR_nat {a hi : Int} (h : inR a 0 hi = true) : ∃ n : Nat, a = n ∧ (n : Int) ≤ hi := by
  simp only [inR, Bool.and_eq_true, decide_eq_true_eq] at h
  obtain ⟨n, rfl⟩ := Int.eq_ofNat_of_zero_le h.1
  exact ⟨n, rfl, h.2⟩
/-- What is at a state. -/
theorem ck_at {c : GChecker} (hok : okCk c = true) {s : Int} (hs : inR s 0 ((c.accept.length : Int) - 1) = true) :
    ∃ (m : Nat) (h1 : m < c.call.length) (h2 : m < c.ret.length) (h3 : m < c.inner.length) (h4 : m < c.accept.length) (p0 p1 : GPush) (q0 q1 : List Int) (i0 i1 : Int), s = m ∧ c.call[m] = [p0, p1] ∧ c.ret[m] = [q0, q1] ∧ c.inner[m] = [i0, i1] ∧
      okPsh c.accept.length c.stack p0 = true ∧ okPsh c.accept.length c.stack p1 = true ∧ okSts c.accept.length (c.stack + 1) q0 = true ∧ okSts c.accept.length (c.stack + 1) q1 = true ∧ inR i0 0 ((c.accept.length : Int) - 1) = true ∧ inR i1 0 ((c.accept.length : Int) - 1) = true := by
  obtain ⟨m, rfl, hm⟩ := inR_nat hs
  obtain ⟨g1, g2, g3, g4, g5, g6⟩ := okCk_len hok
  have h4 : m < c.accept.length := by omega
  obtain ⟨p0, p1, q0, q1, i0, i1, e1, e2, e3, k⟩ := okCkRow_two (okCk_row hok h4 (by omega) (by omega) (by omega))
  exact ⟨m, by omega, by omega, by omega, h4, p0, p1, q0, q1, i0, i1, rfl, e1, e2, e3, k⟩
theorem stepC_ok {c : GChecker} (hok : okCk c = true) {L : Nat} {s : CSt} (h : CkI c L s) {ch : Int} (hc : 0 ≤ symIx ch) : CkI c (L + 1) (stepC c s ch) := by
  obtain ⟨g1, g2, g3, g4, g5, g6⟩ := okCk_len hok
  simp only [inR, Bool.and_eq_true, decide_eq_true_eq] at g2
  obtain ⟨m, h1, h2, h3, h4, p0, p1, q0, q1, i0, i1, es, e1, e2, e3, k1, k2, k3, k4, k5, k6⟩ := ck_at hok h.st
  have k1 := okPsh_to k1
  have k2 := okPsh_to k2
  have k3 := okSts_at k3
  have k4 := okSts_at k4
  obtain ⟨st, stk⟩ := s
  simp only at es
  subst es
  have hml := h.mks
  have hln := h.ln
  simp only at hml hln
  have gq : ∀ (q : List Int), ((q.length : Int) = c.stack + 1) → (∀ x ∈ q, inR x 0 ((c.accept.length : Int) - 1) = true) → ∀ j : Nat, (j : Int) ≤ c.stack → inR (q.getD j 0) 0 ((c.accept.length : Int) - 1) = true := by
    intro q hq hx j hj
    have hj' : j < q.length := by omega
    rw [getD_atC hj']
    exact hx _ (List.getElem_mem hj')
  have ret : ∀ (q : List Int), ((q.length : Int) = c.stack + 1) → (∀ x ∈ q, inR x 0 ((c.accept.length : Int) - 1) = true) → CkI c (L + 1) (match stk.getLast? with
    | some m => (q.getD m.toNat 0, stk.dropLast)
    | none => (q.getD c.stack.toNat 0, stk)) := by
    intro q hq hx
    split
    · rename_i x hx2
      have hxm := hml x (List.mem_of_getLast? hx2)
      obtain ⟨j, rfl, hj⟩ := inR_nat hxm
      exact ⟨gq q hq hx j (by omega), fun y hy => hml y (List.dropLast_subset _ hy), by simp; omega⟩
    · exact ⟨gq q hq hx _ (by omega), hml, by simp; omega⟩
  rcases symIx_cases ch with rfl | rfl | rfl | rfl | rfl | rfl | ⟨hh, _⟩
  · refine ⟨?_, ?_, ?_⟩ <;> simp [stepC, isCallB, symIx, h1, e1]
    · exact k1.1
    · intro y hy; rcases hy with hy | rfl
      · exact hml y hy
      · exact k1.2
    · exact hln
  · refine ⟨?_, ?_, ?_⟩ <;> simp [stepC, isCallB, symIx, h1, e1]
    · exact k2.1
    · intro y hy; rcases hy with hy | rfl
      · exact hml y hy
      · exact k2.2
    · exact hln
  · have := ret q0 k3.1 k3.2
    simpa [stepC, isCallB, isInnB, symIx, h2, e2] using this
  · have := ret q1 k4.1 k4.2
    simpa [stepC, isCallB, isInnB, symIx, h2, e2] using this
  · refine ⟨?_, ?_, ?_⟩ <;> simp [stepC, isCallB, isInnB, symIx, h3, e3]
    · exact k5
    · exact hml
    · omega
  · refine ⟨?_, ?_, ?_⟩ <;> simp [stepC, isCallB, isInnB, symIx, h3, e3]
    · exact k6
    · exact hml
    · omega
  · omega

theorem ev_spec_l00Own (l : List Int) (hl : l.length ≤ 1048576) : ev fns i_spec_l00Own [lst 1 l] [] = some (.own 0 0 0 l.length, [.row 1 (l.map Enc.pv) 0]) := by
  refine go_spec_l00Own (by simp) ?_
  have b : l.length * 8 ≤ 140737488355328 := by omega
  have b2 : l.length ≤ 140737488355328 := by omega
  simp [ac_spec_l00Own, b, b2]
end Go.Proofs.Ytoliadfdklfmfaa
