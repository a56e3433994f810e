/- Checkers on whole words: the reference's and the program's runs. -/
import Derived.Test.YtegjfjckijmgcaaStepC
set_option linter.unusedVariables false
set_option linter.unusedSimpArgs false
set_option maxRecDepth 100000
namespace Go.Proofs.Ytegjfjckijmgcaa
open Aw

/-- Where a word leads. -/
def goC (c : GChecker) (s : CSt) (cs : List Int) : CSt := cs.foldl (stepC c) s
def symW (w : ByteArray) : Prop := ∀ ch ∈ wl w, 0 ≤ symIx ch
theorem CkI.mono {c : GChecker} {L M : Nat} {s : CSt} (h : CkI c L s) (hl : L ≤ M) : CkI c M s := ⟨h.st, h.mks, by have := h.ln; omega⟩
theorem goC_ok {c : GChecker} (hok : okCk c = true) : ∀ (cs : List Int) (L : Nat) (s : CSt), CkI c L s → (∀ ch ∈ cs, 0 ≤ symIx ch) → CkI c (L + cs.length) (goC c s cs)
  | [], L, s, h, _ => h
  | x :: cs, L, s, h, hc => by
    have := goC_ok hok cs (L + 1) (stepC c s x) (stepC_ok hok h (hc x (by simp))) (fun ch h => hc ch (by simp [h]))
    refine CkI.mono this ?_
    simp; omega
set_option maxHeartbeats 2000000 in
theorem ev_spec_l02Step (c : GChecker) (hok : okCk c = true) (L : Nat) (hL : L ≤ 100000) (s : CSt) (h : CkI c L s) (ch : Int) (hc : 0 ≤ symIx ch) :
    ev fns i_spec_l02Step [CkP c, i64 s.1, lst 1 s.2, u8 ch] [] = some (.tup [i64 (stepC c s ch).1, lst 1 (stepC c s ch).2], []) := by
  refine go_spec_l02Step (by simp) ?_
  obtain ⟨g1, g2, g3, g4, g5, g6⟩ := okCk_len hok
  simp only [inR, Bool.and_eq_true, decide_eq_true_eq] at g2
  obtain ⟨m, h1, h2, h3, h4, p0, p1, q0, q1, i0, i1, es, e1, e2, e3, k1, k2, k3, k4, k5, k6⟩ := ck_at hok h.st
  have k3 := okSts_at k3
  have k4 := okSts_at k4
  obtain ⟨st, stk⟩ := s
  simp only at es
  subst es
  have hml := h.mks
  have hln := h.ln
  simp only at hml hln
  have b : (stk.length + 1) * 8 ≤ 140737488355328 := by omega
  have b2 : stk.length + 1 ≤ 140737488355328 := by omega
  have hcl := ev_spec_l00Own stk (by omega)
  simp at hcl
  obtain ⟨S, hS⟩ := Int.eq_ofNat_of_zero_le (show 0 ≤ c.stack by omega)
  have l0 : S < q0.length := by omega
  have l1 : S < q1.length := by omega
  have w11 : IntKind.i64.wrap 1 = 1 := by decide
  rcases symIx_cases ch with rfl | rfl | rfl | rfl | rfl | rfl | ⟨hh, _⟩
  · have hk := ev_spec_l01Symbol 40
    simp [symIx] at hk
    simp [ac_spec_l02Step, hk, w11, b, b2, isCallB, h1, e1, hcl, b, b2, rc1, stepC, symIx, setCells]
  · have hk := ev_spec_l01Symbol 91
    simp [symIx] at hk
    simp [ac_spec_l02Step, hk, w11, b, b2, isCallB, h1, e1, hcl, b, b2, rc1, stepC, symIx, setCells]
  · have hk := ev_spec_l01Symbol 41
    simp [symIx] at hk
    rcases List.eq_nil_or_concat stk with rfl | ⟨pre, x, rfl⟩
    · simp [ac_spec_l02Step, hk, w11, b, b2, isCallB, isInnB, h2, e2, hS, l0, stepC, symIx]
    · rw [List.concat_eq_append] at *
      obtain ⟨j, rfl, hj⟩ := inR_nat (hml x (by simp))
      have hj0 : j < q0.length := by omega
      have w1 := wrap_i64 (n := pre.length) (by simp at hln; omega)
      have hcl2 := ev_spec_l00Own pre (by simp at hln; omega)
      have b3 : pre.length * 8 ≤ 140737488355328 ∧ pre.length ≤ 140737488355328 := by simp at hln; omega
      simp at hcl2
      simp [ac_spec_l02Step, hk, w11, b, b2, isCallB, isInnB, h2, e2, hj0, w1, rc1, stepC, symIx, hcl2, b3]
  · have hk := ev_spec_l01Symbol 93
    simp [symIx] at hk
    rcases List.eq_nil_or_concat stk with rfl | ⟨pre, x, rfl⟩
    · simp [ac_spec_l02Step, hk, w11, b, b2, isCallB, isInnB, h2, e2, hS, l1, stepC, symIx]
    · rw [List.concat_eq_append] at *
      obtain ⟨j, rfl, hj⟩ := inR_nat (hml x (by simp))
      have hj0 : j < q1.length := by omega
      have w1 := wrap_i64 (n := pre.length) (by simp at hln; omega)
      have hcl2 := ev_spec_l00Own pre (by simp at hln; omega)
      have b3 : pre.length * 8 ≤ 140737488355328 ∧ pre.length ≤ 140737488355328 := by simp at hln; omega
      simp at hcl2
      simp [ac_spec_l02Step, hk, w11, b, b2, isCallB, isInnB, h2, e2, hj0, w1, rc1, stepC, symIx, hcl2, b3]
  · have hk := ev_spec_l01Symbol 97
    simp [symIx] at hk
    simp [ac_spec_l02Step, hk, w11, b, b2, isCallB, isInnB, h3, e3, stepC, symIx]
  · have hk := ev_spec_l01Symbol 98
    simp [symIx] at hk
    simp [ac_spec_l02Step, hk, w11, b, b2, isCallB, isInnB, h3, e3, stepC, symIx]
  · omega
theorem lo_spec_l02Go (c : GChecker) (hok : okCk c = true) (L : Nat) (s : CSt) (h : CkI c L s) (w : ByteArray) (hw : symW w) (hL : L + w.size ≤ 100000) (ks : List KI) :
    rE fns fa_spec_l02Go 0 (.code lo_spec_l02Go_0 :: .inBlock 0 :: ks) [(10, i64 0), (3, str w), (2, lst 1 s.2), (1, i64 s.1), (0, CkP c)] [] =
      rE fns fa_spec_l02Go 0 ks [(2, lst 1 (goC c s (wl w)).2), (1, i64 (goC c s (wl w)).1)] [] := by
  have lo := loop_fold (F := fun k s => rE fns fa_spec_l02Go 0 (.code lo_spec_l02Go_0 :: .inBlock 0 :: ks) [(10, i64 (k : Nat)), (3, str w), (2, lst 1 s.2), (1, i64 s.1), (0, CkP c)] []) (ls := wl w) (f := stepC c) (fun k s => CkI c (L + k) s)
    (fun k s hk hI => by
      have hc := hw _ (List.getElem_mem hk)
      refine ⟨?_, stepC_ok hok hI hc⟩
      have hk' : k < w.size := by simpa using hk
      have hwr := wrap_i64 (n := k + 1) (by omega)
      have hb := bt_wl hk'
      have hst := ev_spec_l02Step c hok (L + k) (by omega) s hI _ hc
      simp at hst
      rw [l_spec_l02Go_0]
      simp [lb_spec_l02Go_0, hk', hwr, hb, hst])
    (s := s) h
  simp at lo
  simp
  rw [lo.1, l_spec_l02Go_0]
  simp [lb_spec_l02Go_0, goC]
theorem ev_spec_l02Go (c : GChecker) (hok : okCk c = true) (L : Nat) (s : CSt) (h : CkI c L s) (w : ByteArray) (hw : symW w) (hL : L + w.size ≤ 100000) :
    ev fns i_spec_l02Go [CkP c, i64 s.1, lst 1 s.2, str w] [] = some (.tup [i64 (goC c s (wl w)).1, lst 1 (goC c s (wl w)).2], []) := by
  refine go_spec_l02Go (by simp) ?_
  have lo := lo_spec_l02Go c hok L s h w hw hL
  simp at lo
  simp [ac_spec_l02Go, lo]
theorem CkI.start {c : GChecker} (hok : okCk c = true) : CkI c 0 (c.start, []) := ⟨(okCk_len hok).2.2.1, by simp, by simp⟩
/-- Whether a checker takes a word. -/
def takesC (c : GChecker) (w : ByteArray) : Bool := c.accept.getD (goC c (c.start, []) (wl w)).1.toNat false
theorem takes_at {c : GChecker} (hok : okCk c = true) {w : ByteArray} (hw : symW w) : ∃ (m : Nat) (h : m < c.accept.length), (goC c (c.start, []) (wl w)).1 = m ∧ takesC c w = c.accept[m] := by
  have h := (goC_ok hok (wl w) 0 _ (CkI.start hok) hw).st
  obtain ⟨m, hm, hm2⟩ := inR_nat h
  refine ⟨m, by omega, hm, ?_⟩
  unfold takesC
  rw [hm]
  simp [show m < c.accept.length by omega]
theorem ev_spec_l02Takes (c : GChecker) (hok : okCk c = true) (w : ByteArray) (hw : symW w) (hL : w.size ≤ 100000) :
    ev fns i_spec_l02Takes [CkP c, str w] [] = some (bol (takesC c w), []) := by
  refine go_spec_l02Takes (by simp) ?_
  obtain ⟨m, hm, e1, e2⟩ := takes_at hok hw
  have hg := ev_spec_l02Go c hok 0 _ (CkI.start hok) w hw (by omega)
  rw [e1] at hg
  simp at hg
  simp [ac_spec_l02Takes, hg, hm, e2]

/-! ### The program's -/
theorem lo_run_end (c : GChecker) (hok : okCk c = true) (L : Nat) (s : CSt) (h : CkI c L s) (w : ByteArray) (hw : symW w) (hL : L + w.size ≤ 100000) (ks : List KI) :
    rE fns fa_impl_Checker_run 3 (.code lo_impl_Checker_run_0 :: .inBlock 0 :: ks) [(17, i64 0), (16, i64 w.size), (5, .ptr 3 0 0 0), (4, .fn i_impl_Checker_end_1 [.ptr 1 0 0 0, .ptr 2 0 0 0]), (3, str w), (2, lst 1 s.2), (1, i64 s.1)] [.row 6 [c.v] 0, .row 1 [i64 s.1] 0, .row 1 [lst 1 s.2] 0, .row 6 [c.v] 0] =
      rE fns fa_impl_Checker_run 3 ks [] [.row 6 [c.v] 0, .row 1 [i64 (goC c s (wl w)).1] 0, .row 1 [lst 1 (goC c s (wl w)).2] 0, .row 6 [c.v] 0] := by
  have lo := loop_fold (F := fun k s => rE fns fa_impl_Checker_run 3 (.code lo_impl_Checker_run_0 :: .inBlock 0 :: ks) [(17, i64 (k : Nat)), (16, i64 w.size), (5, .ptr 3 0 0 0), (4, .fn i_impl_Checker_end_1 [.ptr 1 0 0 0, .ptr 2 0 0 0]), (3, str w), (2, lst 1 s.2), (1, i64 s.1)] [.row 6 [c.v] 0, .row 1 [i64 s.1] 0, .row 1 [lst 1 s.2] 0, .row 6 [c.v] 0]) (ls := wl w) (f := stepC c) (fun k s => CkI c (L + k) s)
    (fun k s hk hI => by
      have hc := hw _ (List.getElem_mem hk)
      refine ⟨?_, stepC_ok hok hI hc⟩
      have hk' : k < w.size := by simpa using hk
      have hwr := wrap_i64 (n := k + 1) (by omega)
      have hb := bt_wl hk'
      have hst := ev_impl_step c hok (L + k) (by omega) s hI _ hc
      simp at hst
      have hcl : ev fns i_impl_Checker_end_1 [i64 (stepC c s (wl w)[k]).1, lst 1 (stepC c s (wl w)[k]).2, .ptr 1 0 0 0, .ptr 2 0 0 0] [.row 6 [c.v] 0, .row 1 [i64 s.1] 0, .row 1 [lst 1 s.2] 0, .row 6 [c.v] 0] = some (.tup [], [.row 6 [c.v] 0, .row 1 [i64 (stepC c s (wl w)[k]).1] 0, .row 1 [lst 1 (stepC c s (wl w)[k]).2] 0, .row 6 [c.v] 0]) := by
        refine go_impl_Checker_end_1 (by simp) ?_
        simp [ac_impl_Checker_end_1]
      simp at hcl
      rw [l_impl_Checker_run_0]
      simp [lb_impl_Checker_run_0, hk', hwr, hb, hst, hcl])
    (s := s) h
  simp at lo
  simp
  rw [lo.1, l_impl_Checker_run_0]
  simp [lb_impl_Checker_run_0, goC]
theorem ev_run_end (c : GChecker) (hok : okCk c = true) (L : Nat) (s : CSt) (h : CkI c L s) (w : ByteArray) (hw : symW w) (hL : L + w.size ≤ 100000) :
    ev fns i_impl_Checker_run [c.v, i64 s.1, lst 1 s.2, str w, .fn i_impl_Checker_end_1 [.ptr 1 0 0 0, .ptr 2 0 0 0]] [.row 6 [c.v] 0, .row 1 [i64 s.1] 0, .row 1 [lst 1 s.2] 0] = some (.tup [], [.row 6 [c.v] 0, .row 1 [i64 (goC c s (wl w)).1] 0, .row 1 [lst 1 (goC c s (wl w)).2] 0]) := by
  refine go_impl_Checker_run (by simp) ?_
  have hcl : ev fns i_impl_Checker_end_1 [i64 s.1, lst 1 s.2, .ptr 1 0 0 0, .ptr 2 0 0 0] [.row 6 [c.v] 0, .row 1 [i64 s.1] 0, .row 1 [lst 1 s.2] 0, .row 6 [c.v] 0] = some (.tup [], [.row 6 [c.v] 0, .row 1 [i64 s.1] 0, .row 1 [lst 1 s.2] 0, .row 6 [c.v] 0]) := by
    refine go_impl_Checker_end_1 (by simp) ?_
    simp [ac_impl_Checker_end_1]
  have lo := lo_run_end c hok L s h w hw hL
  simp at lo hcl
  simp [ac_impl_Checker_run, hcl, lo]
theorem ev_Checker_end (c : GChecker) (hok : okCk c = true) (L : Nat) (s : CSt) (h : CkI c L s) (w : ByteArray) (hw : symW w) (hL : L + w.size ≤ 100000) :
    ev fns i_impl_Checker_end [c.v, i64 s.1, lst 1 s.2, str w] [] = some (.tup [i64 (goC c s (wl w)).1, lst 1 (goC c s (wl w)).2], []) := by
  refine go_impl_Checker_end (by simp) ?_
  have hr := ev_run_end c hok L s h w hw hL
  simp at hr
  simp [ac_impl_Checker_end, hr]
theorem ev_Checker_takes (c : GChecker) (hok : okCk c = true) (w : ByteArray) (hw : symW w) (hL : w.size ≤ 100000) :
    ev fns i_impl_Checker_takes [c.v, str w] [] = some (bol (takesC c w), []) := by
  refine go_impl_Checker_takes (by simp) ?_
  obtain ⟨m, hm, e1, e2⟩ := takes_at hok hw
  have hg := ev_Checker_end c hok 0 _ (CkI.start hok) w hw (by omega)
  rw [e1] at hg
  simp at hg
  simp [ac_impl_Checker_takes, hg, hm, e2]
theorem okWord_symW {w : ByteArray} (h : okWord w = true) : symW w := by
  unfold okWord at h
  simp only [Bool.and_eq_true, List.all_eq_true, decide_eq_true_eq] at h
  exact h.1
theorem okWord_le {w : ByteArray} (h : okWord w = true) : w.size ≤ 60 := by
  unfold okWord at h
  simp only [Bool.and_eq_true, decide_eq_true_eq] at h
  exact h.2
theorem ev_spec_l02Given (c : GChecker) (hz : Siz.size c ≤ 1048576) (w : ByteArray) (hw : w.size ≤ 1048576) : ev fns i_spec_l02Given [CkP c, str w] [] = some (i64 (if okCk c = true ∧ okWord w = true then 0 else 1), []) := by
  refine go_spec_l02Given (by simp) ?_
  have h1 := ev_spec_l02Ok c hz
  have h2 := ev_spec_l01Ok w (by omega)
  simp at h1 h2
  cases c1 : okCk c
  · rw [c1] at h1
    simp [ac_spec_l02Given, h1]
  · rw [c1] at h1
    cases c2 : okWord w
    · rw [c2] at h2
      simp [ac_spec_l02Given, h1, h2]
    · rw [c2] at h2
      simp [ac_spec_l02Given, h1, h2]
end Go.Proofs.Ytegjfjckijmgcaa
