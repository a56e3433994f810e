/- A rewriter's runs, step by step: plain law. -/
import Derived.Test.YtjfpmpbdbpgofaaValidRw
set_option linter.unusedVariables false
set_option linter.unusedSimpArgs false
set_option maxRecDepth 100000
namespace Go.Proofs.Ytjfpmpbdbpgofaa
open Aw
/-- A run: the state, the stack, what is written. -/
abbrev RSt := Int × List Int × ByteArray
def stepR (r : GRewriter) (s : RSt) (ch : Int) : RSt :=
  let k := (symIx ch).toNat % 2
  if isCallB ch = true then
    (((r.call.getD s.1.toNat []).getD k ⟨0, 0, ⟨#[]⟩⟩).to, s.2.1 ++ [((r.call.getD s.1.toNat []).getD k ⟨0, 0, ⟨#[]⟩⟩).put], s.2.2 ++ ((r.call.getD s.1.toNat []).getD k ⟨0, 0, ⟨#[]⟩⟩).out)
  else if isInnB ch = true then (((r.inner.getD s.1.toNat []).getD k ⟨0, ⟨#[]⟩⟩).to, s.2.1, s.2.2 ++ ((r.inner.getD s.1.toNat []).getD k ⟨0, ⟨#[]⟩⟩).out)
  else match s.2.1.getLast? with
    | some m => ((((r.ret.getD s.1.toNat []).getD k []).getD m.toNat ⟨0, ⟨#[]⟩⟩).to, s.2.1.dropLast, s.2.2 ++ (((r.ret.getD s.1.toNat []).getD k []).getD m.toNat ⟨0, ⟨#[]⟩⟩).out)
    | none => ((((r.ret.getD s.1.toNat []).getD k []).getD r.stack.toNat ⟨0, ⟨#[]⟩⟩).to, s.2.1, s.2.2 ++ (((r.ret.getD s.1.toNat []).getD k []).getD r.stack.toNat ⟨0, ⟨#[]⟩⟩).out)
structure RwI (r : GRewriter) (L : Nat) (s : RSt) : Prop where
  st : inR s.1 0 ((r.call.length : Int) - 1) = true
  mks : ∀ m ∈ s.2.1, inR m 0 (r.stack - 1) = true
  ln : s.2.1.length ≤ L
  sz : s.2.2.size ≤ 4 * L
theorem okRw_len {r : GRewriter} (h : okRw r = true) : inR r.call.length 1 8 = true ∧ inR r.stack 1 8 = true ∧ inR r.start 0 ((r.call.length : Int) - 1) = true ∧ r.ret.length = r.call.length ∧ r.inner.length = r.call.length := by
  simp only [okRw, Bool.and_eq_true, decide_eq_true_eq] at h
  exact ⟨h.1.1.1.1.1, h.1.1.1.1.2, h.1.1.1.2, h.1.1.2, h.1.2⟩
theorem okRw_row {r : GRewriter} (h : okRw r = true) {s : Nat} (hs : s < r.call.length) (hr : s < r.ret.length) (hi : s < r.inner.length) : okRow r.call.length r.stack r.call[s] r.ret[s] r.inner[s] = true := by
  simp only [okRw, Bool.and_eq_true, decide_eq_true_eq] at h
  have := List.all_eq_true.1 h.2 s (List.mem_range.2 hs)
  rw [getD_at hs, getD_at hr, getD_at hi] at this
  exact this
theorem okOut_size {t : ByteArray} (h : okOut t = true) : t.size ≤ 4 := by
  simp only [okOut, Bool.and_eq_true, decide_eq_true_eq] at h; exact h.2
theorem okMove_to {n : Int} {m : GOutMove} (h : okMove n m = true) : inR m.to 0 (n - 1) = true ∧ m.out.size ≤ 4 := by
  simp only [okMove, Bool.and_eq_true] at h; exact ⟨h.1, okOut_size h.2⟩
theorem okPush_to {n st : Int} {p : GOutPush} (h : okPush n st p = true) : inR p.to 0 (n - 1) = true ∧ inR p.put 0 (st - 1) = true ∧ p.out.size ≤ 4 := by
  simp only [okPush, Bool.and_eq_true] at h; exact ⟨h.1.1, h.2, okOut_size h.1.2⟩
theorem okMoves_at {n many : Int} {l : List GOutMove} (h : okMoves n many l = true) : (l.length : Int) = many ∧ ∀ x ∈ l, inR x.to 0 (n - 1) = true ∧ x.out.size ≤ 4 := by
  simp only [okMoves, Bool.and_eq_true, decide_eq_true_eq, List.all_eq_true] at h
  exact ⟨h.1, fun x hx => okMove_to (h.2 x hx)⟩
theorem inR_natR {a hi : Int} (h : inR a 0 hi = true) : ∃ n : Nat, a = n ∧ (n : Int) ≤ hi := by
  simp only [inR, Bool.and_eq_true, decide_eq_true_eq] at h
  obtain ⟨n, rfl⟩ := Int.eq_ofNat_of_zero_le h.1
  exact ⟨n, rfl, h.2⟩
theorem okRow_twoR {n st : Int} {c : List GOutPush} {b : List (List GOutMove)} {i : List GOutMove} (h : okRow n st c b i = true) :
    ∃ p0 p1 q0 q1 i0 i1, c = [p0, p1] ∧ b = [q0, q1] ∧ i = [i0, i1] ∧ okPush n st p0 = true ∧ okPush n st p1 = true ∧ okMoves n (st + 1) q0 = true ∧ okMoves n (st + 1) q1 = true ∧ okMove n i0 = true ∧ okMove n i1 = true := by
  simp only [okRow, Bool.and_eq_true, decide_eq_true_eq] at h
  obtain ⟨⟨⟨⟨h1, h2⟩, h3⟩, h4⟩, h5⟩ := h
  obtain ⟨p0, p1, rfl⟩ := two_of h1
  obtain ⟨q0, q1, rfl⟩ := two_of h2
  have h3' := h3
  simp only [okMoves, Bool.and_eq_true, decide_eq_true_eq] at h3'
  obtain ⟨i0, i1, rfl⟩ := two_of (show i.length = 2 by omega)
  simp at h4 h5
  simp at h3'
  exact ⟨p0, p1, q0, q1, i0, i1, rfl, rfl, rfl, h4.1, h4.2, h5.1, h5.2, h3'.1, h3'.2⟩
/-- What is at a state. -/
theorem rw_at {r : GRewriter} (hok : okRw r = true) {s : Int} (hs : inR s 0 ((r.call.length : Int) - 1) = true) :
    ∃ (m : Nat) (h1 : m < r.call.length) (h2 : m < r.ret.length) (h3 : m < r.inner.length) (p0 p1 : GOutPush) (q0 q1 : List GOutMove) (i0 i1 : GOutMove), s = m ∧ r.call[m] = [p0, p1] ∧ r.ret[m] = [q0, q1] ∧ r.inner[m] = [i0, i1] ∧
      okPush r.call.length r.stack p0 = true ∧ okPush r.call.length r.stack p1 = true ∧ okMoves r.call.length (r.stack + 1) q0 = true ∧ okMoves r.call.length (r.stack + 1) q1 = true ∧ okMove r.call.length i0 = true ∧ okMove r.call.length i1 = true := by
  obtain ⟨m, rfl, hm⟩ := inR_natR hs
  obtain ⟨g1, g2, g3, g4, g5⟩ := okRw_len hok
  have h1 : m < r.call.length := by omega
  obtain ⟨p0, p1, q0, q1, i0, i1, e1, e2, e3, k⟩ := okRow_twoR (okRw_row hok h1 (by omega) (by omega))
  exact ⟨m, h1, by omega, by omega, p0, p1, q0, q1, i0, i1, rfl, e1, e2, e3, k⟩
theorem stepR_ok {r : GRewriter} (hok : okRw r = true) {L : Nat} {s : RSt} (h : RwI r L s) {ch : Int} (hc : 0 ≤ symIx ch) : RwI r (L + 1) (stepR r s ch) := by
  obtain ⟨g1, g2, g3, g4, g5⟩ := okRw_len hok
  simp only [inR, Bool.and_eq_true, decide_eq_true_eq] at g2
  obtain ⟨m, h1, h2, h3, p0, p1, q0, q1, i0, i1, es, e1, e2, e3, k1, k2, k3, k4, k5, k6⟩ := rw_at hok h.st
  have k1 := okPush_to k1
  have k2 := okPush_to k2
  have k3 := okMoves_at k3
  have k4 := okMoves_at k4
  have k5 := okMove_to k5
  have k6 := okMove_to k6
  obtain ⟨st, stk, out⟩ := s
  simp only at es
  subst es
  have hml := h.mks
  have hln := h.ln
  have hsz := h.sz
  simp only at hml hln hsz
  have gq : ∀ (q : List GOutMove), ((q.length : Int) = r.stack + 1) → (∀ x ∈ q, inR x.to 0 ((r.call.length : Int) - 1) = true ∧ x.out.size ≤ 4) → ∀ j : Nat, (j : Int) ≤ r.stack → inR (q.getD j ⟨0, ⟨#[]⟩⟩).to 0 ((r.call.length : Int) - 1) = true ∧ (q.getD j ⟨0, ⟨#[]⟩⟩).out.size ≤ 4 := by
    intro q hq hx j hj
    have hj' : j < q.length := by omega
    rw [getD_at hj']
    exact hx _ (List.getElem_mem hj')
  have ret : ∀ (q : List GOutMove), ((q.length : Int) = r.stack + 1) → (∀ x ∈ q, inR x.to 0 ((r.call.length : Int) - 1) = true ∧ x.out.size ≤ 4) → RwI r (L + 1) (match stk.getLast? with
    | some m => ((q.getD m.toNat ⟨0, ⟨#[]⟩⟩).to, stk.dropLast, out ++ (q.getD m.toNat ⟨0, ⟨#[]⟩⟩).out)
    | none => ((q.getD r.stack.toNat ⟨0, ⟨#[]⟩⟩).to, stk, out ++ (q.getD r.stack.toNat ⟨0, ⟨#[]⟩⟩).out)) := by
    intro q hq hx
    split
    · rename_i x hx2
      have hxm := hml x (List.mem_of_getLast? hx2)
      obtain ⟨j, rfl, hj⟩ := inR_natR hxm
      have g := gq q hq hx j (by omega)
      exact ⟨g.1, fun y hy => hml y (List.dropLast_subset _ hy), by simp; omega, by have := g.2; simp only [ByteArray.size_append, Int.toNat_natCast]; omega⟩
    · have g := gq q hq hx r.stack.toNat (by omega)
      exact ⟨g.1, hml, by simp; omega, by have := g.2; simp only [ByteArray.size_append]; omega⟩
  rcases symIx_cases ch with rfl | rfl | rfl | rfl | rfl | rfl | ⟨hh, _⟩
  · refine ⟨?_, ?_, ?_, ?_⟩ <;> simp [stepR, isCallB, symIx, h1, e1]
    · exact k1.1
    · intro y hy; rcases hy with hy | rfl
      · exact hml y hy
      · exact k1.2.1
    · exact hln
    · have := k1.2.2; omega
  · refine ⟨?_, ?_, ?_, ?_⟩ <;> simp [stepR, isCallB, symIx, h1, e1]
    · exact k2.1
    · intro y hy; rcases hy with hy | rfl
      · exact hml y hy
      · exact k2.2.1
    · exact hln
    · have := k2.2.2; omega
  · have := ret q0 k3.1 k3.2
    simpa [stepR, isCallB, isInnB, symIx, h2, e2] using this
  · have := ret q1 k4.1 k4.2
    simpa [stepR, isCallB, isInnB, symIx, h2, e2] using this
  · refine ⟨?_, ?_, ?_, ?_⟩ <;> simp [stepR, isCallB, isInnB, symIx, h3, e3]
    · exact k5.1
    · exact hml
    · omega
    · have := k5.2; omega
  · refine ⟨?_, ?_, ?_, ?_⟩ <;> simp [stepR, isCallB, isInnB, symIx, h3, e3]
    · exact k6.1
    · exact hml
    · omega
    · have := k6.2; omega
  · omega
end Go.Proofs.Ytjfpmpbdbpgofaa
