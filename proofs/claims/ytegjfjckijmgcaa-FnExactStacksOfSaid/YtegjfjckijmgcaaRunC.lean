/- Checkers on whole words: the reference's and the program's runs. -/
import Derived.Test.YtegjfjckijmgcaaStepC
set_option linter.unusedVariables false
set_option linter.unusedSimpArgs false
set_option maxRecDepth 100000
namespace Go.Proofs.Ytegjfjckijmgcaa
open Aw

/-- Where a word leads. -/
def goC (c : GChecker) (s : CSt) (cs : List Int) : CSt := cs.foldl (stepC c) s
def symW (w : ByteArray) : Prop := ∀ ch ∈ wl w, 0 ≤ symIx ch
theorem CkI.mono {c : GChecker} {L M : Nat} {s : CSt} (h : CkI c L s) (hl : L ≤ M) : CkI c M s := ⟨h.st, h.mks, by have := h.ln; omega⟩
theorem goC_ok {c : GChecker} (hok : okCk c = true) : ∀ (cs : List Int) (L : Nat) (s : CSt), CkI c L s → (∀ ch ∈ cs, 0 ≤ symIx ch) → CkI c (L + cs.length) (goC c s cs)
  | [], L, s, h, _ => h
  | x :: cs, L, s, h, hc => by
    have := goC_ok hok cs (L + 1) (stepC c s x) (stepC_ok hok h (hc x (by simp))) (fun ch h => hc ch (by simp [h]))
    refine CkI.mono this ?_
    simp; omega
set_option maxHeartbeats 2000000 in
theorem ev_spec_l02Step (c : GChecker) (hok : okCk c = true) (L : Nat) (hL : L ≤ 100000) (s : CSt) (h : CkI c L s) (ch : Int) (hc : 0 ≤ symIx ch) :
    ev fns i_spec_l02Step [CkP c, i64 s.1, lst 1 s.2, u8 ch] [] = some (.tup [i64 (stepC c s ch).1, lst 1 (stepC c s ch).2], []) := by
  refine go_spec_l02Step (by simp) ?_
  obtain ⟨g1, g2, g3, g4, g5, g6⟩ := okCk_len hok
  simp only [inR, Bool.and_eq_true, decide_eq_true_eq] at g2
  obtain ⟨m, h1, h2, h3, h4, p0, p1, q0, q1, i0, i1, es, e1, e2, e3, k1, k2, k3, k4, k5, k6⟩ := ck_at hok h.st
  have k3 := okSts_at k3
  have k4 := okSts_at k4
  obtain ⟨st, stk⟩ := s
  simp only at es
  subst es
  have hml := h.mks
  have hln := h.ln
  simp only at hml hln
  have b : (stk.length + 1) * 8 ≤ 140737488355328 := by omega
  have b2 : stk.length + 1 ≤ 140737488355328 := by omega
  have hcl := ev_spec_l00Own stk (by omega)
  simp at hcl
  obtain ⟨S, hS⟩ := Int.eq_ofNat_of_zero_le (show 0 ≤ c.stack by omega)
  have l0 : S < q0.length := by omega
  have l1 : S < q1.length := by omega
  have w11 : IntKind.i64.wrap 1 = 1 := by decide
  rcases symIx_cases ch with rfl | rfl | rfl | rfl | rfl | rfl | ⟨hh, _⟩
  · have hk := ev_spec_l01Symbol 40
    simp [symIx] at hk
    simp [ac_spec_l02Step, hk, w11, b, b2, isCallB, h1, e1, hcl, b, b2, rc1, stepC, symIx, setCells]
  · have hk := ev_spec_l01Symbol 91
    simp [symIx] at hk
    simp [ac_spec_l02Step, hk, w11, b, b2, isCallB, h1, e1, hcl, b, b2, rc1, stepC, symIx, setCells]
  · have hk := ev_spec_l01Symbol 41
    simp [symIx] at hk
    rcases List.eq_nil_or_concat stk with rfl | ⟨pre, x, rfl⟩
    · simp [ac_spec_l02Step, hk, w11, b, b2, isCallB, isInnB, h2, e2, hS, l0, stepC, symIx]
    · rw [List.concat_eq_append] at *
      obtain ⟨j, rfl, hj⟩ := inR_nat (hml x (by simp))
      have hj0 : j < q0.length := by omega
      have w1 := wrap_i64 (n := pre.length) (by simp at hln; omega)
      have hcl2 := ev_spec_l00Own pre (by simp at hln; omega)
      have b3 : pre.length * 8 ≤ 140737488355328 ∧ pre.length ≤ 140737488355328 := by simp at hln; omega
      simp at hcl2
      simp [ac_spec_l02Step, hk, w11, b, b2, isCallB, isInnB, h2, e2, hj0, w1, rc1, stepC, symIx, hcl2, b3]
  · have hk := ev_spec_l01Symbol 93
    simp [symIx] at hk
    rcases List.eq_nil_or_concat stk with rfl | ⟨pre, x, rfl⟩
    · simp [ac_spec_l02Step, hk, w11, b, b2, isCallB, isInnB, h2, e2, hS, l1, stepC, symIx]
    · rw [List.concat_eq_append] at *
      obtain ⟨j, rfl, hj⟩ := inR_nat (hml x (by simp))
      have hj0 : j < q1.length := by omega
      have w1 := wrap_i64 (n := pre.length) (by simp at hln; omega)
      have hcl2 := ev_spec_l00Own pre (by simp at hln; omega)
      have b3 : pre.length * 8 ≤ 140737488355328 ∧ pre.length ≤ 140737488355328 := by simp at hln; omega
      simp at hcl2
      simp [ac_spec_l02Step, hk, w11, b, b2, isCallB, isInnB, h2, e2, hj0, w1, rc1, stepC, symIx, hcl2, b3]
  · have hk := ev_spec_l01Symbol 97
    simp [symIx] at hk
    simp [ac_spec_l02Step, hk, w11, b, b2, isCallB, isInnB, h3, e3, stepC, symIx]
  · have hk := ev_spec_l01Symbol 98
    simp [symIx] at hk
    simp [ac_spec_l02Step, hk, w11, b, b2, isCallB, isInnB, h3, e3, stepC, symIx]
  · omega
theorem CkI.start {c : GChecker} (hok : okCk c = true) : CkI c 0 (c.start, []) := ⟨(okCk_len hok).2.2.1, by simp, by simp⟩
/-- Whether a checker takes a word. -/
def takesC (c : GChecker) (w : ByteArray) : Bool := c.accept.getD (goC c (c.start, []) (wl w)).1.toNat false
theorem takes_at {c : GChecker} (hok : okCk c = true) {w : ByteArray} (hw : symW w) : ∃ (m : Nat) (h : m < c.accept.length), (goC c (c.start, []) (wl w)).1 = m ∧ takesC c w = c.accept[m] := by
  have h := (goC_ok hok (wl w) 0 _ (CkI.start hok) hw).st
  obtain ⟨m, hm, hm2⟩ := inR_nat h
  refine ⟨m, by omega, hm, ?_⟩
  unfold takesC
  rw [hm]
  simp [show m < c.accept.length by omega]
/-! ### The program's -/
theorem okWord_symW {w : ByteArray} (h : okWord w = true) : symW w := by
  unfold okWord at h
  simp only [Bool.and_eq_true, List.all_eq_true, decide_eq_true_eq] at h
  exact h.1
theorem okWord_le {w : ByteArray} (h : okWord w = true) : w.size ≤ 60 := by
  unfold okWord at h
  simp only [Bool.and_eq_true, decide_eq_true_eq] at h
  exact h.2
theorem ev_spec_l02Given (c : GChecker) (hz : Siz.size c ≤ 1048576) (w : ByteArray) (hw : w.size ≤ 1048576) : ev fns i_spec_l02Given [CkP c, str w] [] = some (i64 (if okCk c = true ∧ okWord w = true then 0 else 1), []) := by
  refine go_spec_l02Given (by simp) ?_
  have h1 := ev_spec_l02Ok c hz
  have h2 := ev_spec_l01Ok w (by omega)
  simp at h1 h2
  cases c1 : okCk c
  · rw [c1] at h1
    simp [ac_spec_l02Given, h1]
  · rw [c1] at h1
    cases c2 : okWord w
    · rw [c2] at h2
      simp [ac_spec_l02Given, h1, h2]
    · rw [c2] at h2
      simp [ac_spec_l02Given, h1, h2]
end Go.Proofs.Ytegjfjckijmgcaa
