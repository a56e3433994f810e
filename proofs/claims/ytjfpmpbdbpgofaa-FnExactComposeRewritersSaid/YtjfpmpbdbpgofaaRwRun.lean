/- Rewriters' runs: the program's. -/
import Derived.Test.YtjfpmpbdbpgofaaRwStep
import Derived.Test.YtjfpmpbdbpgofaaBldR
set_option linter.unusedVariables false
set_option linter.unusedSimpArgs false
set_option maxRecDepth 100000
namespace Go.Proofs.Ytjfpmpbdbpgofaa
open Aw
theorem ev_kindOfR (ch : Int) (h : 0 ≤ ch ∧ ch < 256) : ev fns i_impl_kindOf [u8 ch] [] = some (i64 ((symIx ch).tmod 2), []) := by
  refine go_impl_kindOf (by simp) ?_
  have hf := firstIdx_sym h
  have hv := ev_strings_IndexByte ⟨#[40, 91, 41, 93, 97, 98]⟩ ch
  rw [hf] at hv
  simp at hv
  simp [ac_impl_kindOf, hv, hf]
theorem ba_nil {s : ByteArray} (h : ¬ 0 < s.size) : s = ⟨#[]⟩ := by
  have h0 : s.size = 0 := by omega
  obtain ⟨⟨l⟩⟩ := s
  have : l.length = 0 := h0
  rw [List.eq_nil_of_length_eq_zero this]
/-- The state between two symbols. -/
def Sg (k : Nat) (st : List Int) (out : ByteArray) : List AObj := if 0 < out.size then RB1 st [] out 6000000 else RB0 st (if decide (0 < k) = true then .ptr 1 307000000 0 0 else .val (.pointer none))
@[simp] abbrev RFr (r : GRewriter) (w : ByteArray) (k : Nat) (s : RSt) : Fr := [(23, i64 (k : Nat)), (22, i64 w.size), (11, .ptr 1 307000000 0 0), (4, RwF r), (3, str w), (2, .own 0 0 0 s.2.1.length), (1, i64 s.1)]
set_option maxHeartbeats 4000000 in
theorem stepD1 (r : GRewriter) (hok : okRw r = true) (w : ByteArray) (k : Nat) (hk : k < w.size) (hL : w.size ≤ 100000) (s : RSt) (B : Nat) (hB : B ≤ 1000) (h : RwI r (B + k) s) (ho : 0 < s.2.2.size) (ch : Int) (hch : bt w k = ch) (hc : 0 ≤ symIx ch) (ks : List KI) :
    rE fns fa_impl_Rewriter_rewrite 0 (.code lo_impl_Rewriter_rewrite_0 :: .inBlock 0 :: ks) (RFr r w k s) (RB1 s.2.1 [] s.2.2 6000000) =
      rE fns fa_impl_Rewriter_rewrite 0 (.code lo_impl_Rewriter_rewrite_0 :: .inBlock 0 :: ks) (RFr r w (k + 1) (stepR r s ch)) (RB1 (stepR r s ch).2.1 [] (stepR r s ch).2.2 6000000) := by
  obtain ⟨g1, g2, g3, g4, g5⟩ := okRw_len hok
  simp only [inR, Bool.and_eq_true, decide_eq_true_eq] at g2
  obtain ⟨m, h1, h2, h3, p0, p1, q0, q1, i0, i1, es, e1, e2, e3, k1, k2, k3, k4, k5, k6⟩ := rw_at hok h.st
  have k1 := okPush_to k1
  have k2 := okPush_to k2
  have k3 := okMoves_at k3
  have k4 := okMoves_at k4
  have k5 := okMove_to k5
  have k6 := okMove_to k6
  obtain ⟨st, stk, out⟩ := s
  simp only at es ho
  subst es
  have hml := h.mks
  have hln := h.ln
  have hsz := h.sz
  simp only at hml hln hsz
  obtain ⟨S, hS⟩ := Int.eq_ofNat_of_zero_le (show 0 ≤ r.stack by omega)
  have l0 : S < q0.length := by omega
  have l1 : S < q1.length := by omega
  have b : (stk.length + 1) * 8 ≤ 140737488355328 := by omega
  have b2 : stk.length + 1 ≤ 140737488355328 := by omega
  have hwr := wrap_i64 (n := k + 1) (by omega)
  rcases symIx_cases ch with rfl | rfl | rfl | rfl | rfl | rfl | ⟨hh, _⟩
  · have hkk := ev_kindOfR 40 (by decide)
    simp [symIx] at hkk
    have hw := writeR1 (stk ++ [p0.put]) out p0.to p0.out (by have := k1.2.2; omega)
    obtain ⟨d, hd⟩ : ∃ d, d = out ++ p0.out := ⟨_, rfl⟩
    have hst : stepR r ((m : Int), stk, out) 40 = (p0.to, (stk ++ [p0.put]), d) := by simp [stepR, symIx, isCallB, h1, e1, b, b2, hd]
    rw [hst]
    rw [← hd] at hw
    rw [l_impl_Rewriter_rewrite_0]
    simp at hw
    simp [lb_impl_Rewriter_rewrite_0, hk, hch, hwr, hkk, isCallB, h1, e1, b, b2, hw, setCells, nvRow, PV.bels]
    done
  · have hkk := ev_kindOfR 91 (by decide)
    simp [symIx] at hkk
    have hw := writeR1 (stk ++ [p1.put]) out p1.to p1.out (by have := k2.2.2; omega)
    obtain ⟨d, hd⟩ : ∃ d, d = out ++ p1.out := ⟨_, rfl⟩
    have hst : stepR r ((m : Int), stk, out) 91 = (p1.to, (stk ++ [p1.put]), d) := by simp [stepR, symIx, isCallB, h1, e1, b, b2, hd]
    rw [hst]
    rw [← hd] at hw
    rw [l_impl_Rewriter_rewrite_0]
    simp at hw
    simp [lb_impl_Rewriter_rewrite_0, hk, hch, hwr, hkk, isCallB, h1, e1, b, b2, hw, setCells, nvRow, PV.bels]
    done
  · have hkk := ev_kindOfR 41 (by decide)
    simp [symIx] at hkk
    rcases List.eq_nil_or_concat stk with rfl | ⟨pre, x, rfl⟩
    · have hq := (k3.2 _ (List.getElem_mem l0)).2
      have hw := writeR1 [] out q0[S].to q0[S].out (by have := hq; omega)
      obtain ⟨d, hd⟩ : ∃ d, d = out ++ q0[S].out := ⟨_, rfl⟩
      have hst : stepR r ((m : Int), [], out) 41 = (q0[S].to, [], d) := by simp [stepR, symIx, isCallB, isInnB, h2, e2, hS, l0, hd]
      rw [hst]
      rw [← hd] at hw
      rw [l_impl_Rewriter_rewrite_0]
      simp at hw
      simp [lb_impl_Rewriter_rewrite_0, hk, hch, hwr, hkk, isCallB, isInnB, h2, e2, hS, l0, hw, setCells, nvRow, PV.bels]
      done
    · rw [List.concat_eq_append] at *
      obtain ⟨j, rfl, hj⟩ := inR_natR (hml x (by simp))
      have hj0 : j < q0.length := by omega
      have w1 := wrap_i64 (n := pre.length) (by simp at hln; omega)
      have hq := (k3.2 _ (List.getElem_mem hj0)).2
      have hw := writeR1 pre out q0[j].to q0[j].out (by have := hq; omega)
      obtain ⟨d, hd⟩ : ∃ d, d = out ++ q0[j].out := ⟨_, rfl⟩
      have hst : stepR r ((m : Int), pre ++ [(j : Int)], out) 41 = (q0[j].to, pre, d) := by simp [stepR, symIx, isCallB, isInnB, h2, e2, hj0, w1, rc1, hd]
      rw [hst]
      rw [← hd] at hw
      rw [l_impl_Rewriter_rewrite_0]
      simp at hw
      simp [lb_impl_Rewriter_rewrite_0, hk, hch, hwr, hkk, isCallB, isInnB, h2, e2, hj0, w1, rc1, hw, setCells, nvRow, PV.bels]
      done
  · have hkk := ev_kindOfR 93 (by decide)
    simp [symIx] at hkk
    rcases List.eq_nil_or_concat stk with rfl | ⟨pre, x, rfl⟩
    · have hq := (k4.2 _ (List.getElem_mem l1)).2
      have hw := writeR1 [] out q1[S].to q1[S].out (by have := hq; omega)
      obtain ⟨d, hd⟩ : ∃ d, d = out ++ q1[S].out := ⟨_, rfl⟩
      have hst : stepR r ((m : Int), [], out) 93 = (q1[S].to, [], d) := by simp [stepR, symIx, isCallB, isInnB, h2, e2, hS, l1, hd]
      rw [hst]
      rw [← hd] at hw
      rw [l_impl_Rewriter_rewrite_0]
      simp at hw
      simp [lb_impl_Rewriter_rewrite_0, hk, hch, hwr, hkk, isCallB, isInnB, h2, e2, hS, l1, hw, setCells, nvRow, PV.bels]
      done
    · rw [List.concat_eq_append] at *
      obtain ⟨j, rfl, hj⟩ := inR_natR (hml x (by simp))
      have hj0 : j < q1.length := by omega
      have w1 := wrap_i64 (n := pre.length) (by simp at hln; omega)
      have hq := (k4.2 _ (List.getElem_mem hj0)).2
      have hw := writeR1 pre out q1[j].to q1[j].out (by have := hq; omega)
      obtain ⟨d, hd⟩ : ∃ d, d = out ++ q1[j].out := ⟨_, rfl⟩
      have hst : stepR r ((m : Int), pre ++ [(j : Int)], out) 93 = (q1[j].to, pre, d) := by simp [stepR, symIx, isCallB, isInnB, h2, e2, hj0, w1, rc1, hd]
      rw [hst]
      rw [← hd] at hw
      rw [l_impl_Rewriter_rewrite_0]
      simp at hw
      simp [lb_impl_Rewriter_rewrite_0, hk, hch, hwr, hkk, isCallB, isInnB, h2, e2, hj0, w1, rc1, hw, setCells, nvRow, PV.bels]
      done
  · have hkk := ev_kindOfR 97 (by decide)
    simp [symIx] at hkk
    have hw := writeR1 stk out i0.to i0.out (by have := k5.2; omega)
    obtain ⟨d, hd⟩ : ∃ d, d = out ++ i0.out := ⟨_, rfl⟩
    have hst : stepR r ((m : Int), stk, out) 97 = (i0.to, stk, d) := by simp [stepR, symIx, isCallB, isInnB, h3, e3, hd]
    rw [hst]
    rw [← hd] at hw
    rw [l_impl_Rewriter_rewrite_0]
    simp at hw
    simp [lb_impl_Rewriter_rewrite_0, hk, hch, hwr, hkk, isCallB, isInnB, h3, e3, hw, setCells, nvRow, PV.bels]
    done
  · have hkk := ev_kindOfR 98 (by decide)
    simp [symIx] at hkk
    have hw := writeR1 stk out i1.to i1.out (by have := k6.2; omega)
    obtain ⟨d, hd⟩ : ∃ d, d = out ++ i1.out := ⟨_, rfl⟩
    have hst : stepR r ((m : Int), stk, out) 98 = (i1.to, stk, d) := by simp [stepR, symIx, isCallB, isInnB, h3, e3, hd]
    rw [hst]
    rw [← hd] at hw
    rw [l_impl_Rewriter_rewrite_0]
    simp at hw
    simp [lb_impl_Rewriter_rewrite_0, hk, hch, hwr, hkk, isCallB, isInnB, h3, e3, hw, setCells, nvRow, PV.bels]
    done
  · omega
theorem nil_app (o : ByteArray) : (⟨#[]⟩ : ByteArray) ++ o = o := by
  have : (⟨#[]⟩ : ByteArray) = ByteArray.empty := rfl
  rw [this, ByteArray.empty_append]
set_option maxHeartbeats 8000000 in
theorem stepD0 (kk : Bool) (r : GRewriter) (hok : okRw r = true) (w : ByteArray) (k : Nat) (hk : k < w.size) (hL : w.size ≤ 100000) (s : RSt) (B : Nat) (hB : B ≤ 1000) (h : RwI r (B + k) s) (ho : s.2.2 = ⟨#[]⟩) (ch : Int) (hch : bt w k = ch) (hc : 0 ≤ symIx ch) (ks : List KI) :
    rE fns fa_impl_Rewriter_rewrite 0 (.code lo_impl_Rewriter_rewrite_0 :: .inBlock 0 :: ks) (RFr r w k s) (RB0 s.2.1 (if kk = true then .ptr 1 307000000 0 0 else .val (.pointer none))) =
      rE fns fa_impl_Rewriter_rewrite 0 (.code lo_impl_Rewriter_rewrite_0 :: .inBlock 0 :: ks) (RFr r w (k + 1) (stepR r s ch)) (if 0 < (stepR r s ch).2.2.size then RB1 (stepR r s ch).2.1 [] (stepR r s ch).2.2 6000000 else RB0 (stepR r s ch).2.1 (.ptr 1 307000000 0 0)) := by
  obtain ⟨g1, g2, g3, g4, g5⟩ := okRw_len hok
  simp only [inR, Bool.and_eq_true, decide_eq_true_eq] at g2
  obtain ⟨m, h1, h2, h3, p0, p1, q0, q1, i0, i1, es, e1, e2, e3, k1, k2, k3, k4, k5, k6⟩ := rw_at hok h.st
  have k1 := okPush_to k1
  have k2 := okPush_to k2
  have k3 := okMoves_at k3
  have k4 := okMoves_at k4
  have k5 := okMove_to k5
  have k6 := okMove_to k6
  obtain ⟨st, stk, out⟩ := s
  simp only at es ho
  subst es
  subst ho
  have hml := h.mks
  have hln := h.ln
  have hsz := h.sz
  simp only at hml hln hsz
  obtain ⟨S, hS⟩ := Int.eq_ofNat_of_zero_le (show 0 ≤ r.stack by omega)
  have l0 : S < q0.length := by omega
  have l1 : S < q1.length := by omega
  have b : (stk.length + 1) * 8 ≤ 140737488355328 := by omega
  have b2 : stk.length + 1 ≤ 140737488355328 := by omega
  have hwr := wrap_i64 (n := k + 1) (by omega)
  rcases symIx_cases ch with rfl | rfl | rfl | rfl | rfl | rfl | ⟨hh, _⟩
  · have hkk := ev_kindOfR 40 (by decide)
    simp [symIx] at hkk
    have hst : stepR r ((m : Int), stk, ⟨#[]⟩) 40 = (p0.to, (stk ++ [p0.put]), p0.out) := by simp [stepR, symIx, isCallB, h1, e1, b, b2, nil_app]
    rw [hst]
    rw [l_impl_Rewriter_rewrite_0]
    by_cases hO : 0 < (p0.out).size
    · have hw := writeR0 kk (stk ++ [p0.put]) p0.to p0.out hO (by have := k1.2.2; omega)
      cases kk
      · simp at hw
        simp [lb_impl_Rewriter_rewrite_0, hk, hch, hwr, hkk, isCallB, h1, e1, b, b2, hw, hO, setCells, nvRow, PV.bels]
        done
      · simp at hw
        simp [lb_impl_Rewriter_rewrite_0, hk, hch, hwr, hkk, isCallB, h1, e1, b, b2, hw, hO, setCells, nvRow, PV.bels]
        done
    · have hw := writeRe kk (stk ++ [p0.put]) p0.to p0.out (ba_nil hO)
      cases kk
      · simp at hw
        simp [lb_impl_Rewriter_rewrite_0, hk, hch, hwr, hkk, isCallB, h1, e1, b, b2, hw, hO, setCells, nvRow, PV.bels]
        done
      · simp at hw
        simp [lb_impl_Rewriter_rewrite_0, hk, hch, hwr, hkk, isCallB, h1, e1, b, b2, hw, hO, setCells, nvRow, PV.bels]
        done
  · have hkk := ev_kindOfR 91 (by decide)
    simp [symIx] at hkk
    have hst : stepR r ((m : Int), stk, ⟨#[]⟩) 91 = (p1.to, (stk ++ [p1.put]), p1.out) := by simp [stepR, symIx, isCallB, h1, e1, b, b2, nil_app]
    rw [hst]
    rw [l_impl_Rewriter_rewrite_0]
    by_cases hO : 0 < (p1.out).size
    · have hw := writeR0 kk (stk ++ [p1.put]) p1.to p1.out hO (by have := k2.2.2; omega)
      cases kk
      · simp at hw
        simp [lb_impl_Rewriter_rewrite_0, hk, hch, hwr, hkk, isCallB, h1, e1, b, b2, hw, hO, setCells, nvRow, PV.bels]
        done
      · simp at hw
        simp [lb_impl_Rewriter_rewrite_0, hk, hch, hwr, hkk, isCallB, h1, e1, b, b2, hw, hO, setCells, nvRow, PV.bels]
        done
    · have hw := writeRe kk (stk ++ [p1.put]) p1.to p1.out (ba_nil hO)
      cases kk
      · simp at hw
        simp [lb_impl_Rewriter_rewrite_0, hk, hch, hwr, hkk, isCallB, h1, e1, b, b2, hw, hO, setCells, nvRow, PV.bels]
        done
      · simp at hw
        simp [lb_impl_Rewriter_rewrite_0, hk, hch, hwr, hkk, isCallB, h1, e1, b, b2, hw, hO, setCells, nvRow, PV.bels]
        done
  · have hkk := ev_kindOfR 41 (by decide)
    simp [symIx] at hkk
    rcases List.eq_nil_or_concat stk with rfl | ⟨pre, x, rfl⟩
    · have hq := (k3.2 _ (List.getElem_mem l0)).2
      have hst : stepR r ((m : Int), [], ⟨#[]⟩) 41 = (q0[S].to, [], q0[S].out) := by simp [stepR, symIx, isCallB, isInnB, h2, e2, hS, l0, nil_app]
      rw [hst]
      rw [l_impl_Rewriter_rewrite_0]
      by_cases hO : 0 < (q0[S].out).size
      · have hw := writeR0 kk [] q0[S].to q0[S].out hO (by have := hq; omega)
        cases kk
        · simp at hw
          simp [lb_impl_Rewriter_rewrite_0, hk, hch, hwr, hkk, isCallB, isInnB, h2, e2, hS, l0, hw, hO, setCells, nvRow, PV.bels]
          done
        · simp at hw
          simp [lb_impl_Rewriter_rewrite_0, hk, hch, hwr, hkk, isCallB, isInnB, h2, e2, hS, l0, hw, hO, setCells, nvRow, PV.bels]
          done
      · have hw := writeRe kk [] q0[S].to q0[S].out (ba_nil hO)
        cases kk
        · simp at hw
          simp [lb_impl_Rewriter_rewrite_0, hk, hch, hwr, hkk, isCallB, isInnB, h2, e2, hS, l0, hw, hO, setCells, nvRow, PV.bels]
          done
        · simp at hw
          simp [lb_impl_Rewriter_rewrite_0, hk, hch, hwr, hkk, isCallB, isInnB, h2, e2, hS, l0, hw, hO, setCells, nvRow, PV.bels]
          done
    · rw [List.concat_eq_append] at *
      obtain ⟨j, rfl, hj⟩ := inR_natR (hml x (by simp))
      have hj0 : j < q0.length := by omega
      have w1 := wrap_i64 (n := pre.length) (by simp at hln; omega)
      have hq := (k3.2 _ (List.getElem_mem hj0)).2
      have hst : stepR r ((m : Int), pre ++ [(j : Int)], ⟨#[]⟩) 41 = (q0[j].to, pre, q0[j].out) := by simp [stepR, symIx, isCallB, isInnB, h2, e2, hj0, w1, rc1, nil_app]
      rw [hst]
      rw [l_impl_Rewriter_rewrite_0]
      by_cases hO : 0 < (q0[j].out).size
      · have hw := writeR0 kk pre q0[j].to q0[j].out hO (by have := hq; omega)
        cases kk
        · simp at hw
          simp [lb_impl_Rewriter_rewrite_0, hk, hch, hwr, hkk, isCallB, isInnB, h2, e2, hj0, w1, rc1, hw, hO, setCells, nvRow, PV.bels]
          done
        · simp at hw
          simp [lb_impl_Rewriter_rewrite_0, hk, hch, hwr, hkk, isCallB, isInnB, h2, e2, hj0, w1, rc1, hw, hO, setCells, nvRow, PV.bels]
          done
      · have hw := writeRe kk pre q0[j].to q0[j].out (ba_nil hO)
        cases kk
        · simp at hw
          simp [lb_impl_Rewriter_rewrite_0, hk, hch, hwr, hkk, isCallB, isInnB, h2, e2, hj0, w1, rc1, hw, hO, setCells, nvRow, PV.bels]
          done
        · simp at hw
          simp [lb_impl_Rewriter_rewrite_0, hk, hch, hwr, hkk, isCallB, isInnB, h2, e2, hj0, w1, rc1, hw, hO, setCells, nvRow, PV.bels]
          done
  · have hkk := ev_kindOfR 93 (by decide)
    simp [symIx] at hkk
    rcases List.eq_nil_or_concat stk with rfl | ⟨pre, x, rfl⟩
    · have hq := (k4.2 _ (List.getElem_mem l1)).2
      have hst : stepR r ((m : Int), [], ⟨#[]⟩) 93 = (q1[S].to, [], q1[S].out) := by simp [stepR, symIx, isCallB, isInnB, h2, e2, hS, l1, nil_app]
      rw [hst]
      rw [l_impl_Rewriter_rewrite_0]
      by_cases hO : 0 < (q1[S].out).size
      · have hw := writeR0 kk [] q1[S].to q1[S].out hO (by have := hq; omega)
        cases kk
        · simp at hw
          simp [lb_impl_Rewriter_rewrite_0, hk, hch, hwr, hkk, isCallB, isInnB, h2, e2, hS, l1, hw, hO, setCells, nvRow, PV.bels]
          done
        · simp at hw
          simp [lb_impl_Rewriter_rewrite_0, hk, hch, hwr, hkk, isCallB, isInnB, h2, e2, hS, l1, hw, hO, setCells, nvRow, PV.bels]
          done
      · have hw := writeRe kk [] q1[S].to q1[S].out (ba_nil hO)
        cases kk
        · simp at hw
          simp [lb_impl_Rewriter_rewrite_0, hk, hch, hwr, hkk, isCallB, isInnB, h2, e2, hS, l1, hw, hO, setCells, nvRow, PV.bels]
          done
        · simp at hw
          simp [lb_impl_Rewriter_rewrite_0, hk, hch, hwr, hkk, isCallB, isInnB, h2, e2, hS, l1, hw, hO, setCells, nvRow, PV.bels]
          done
    · rw [List.concat_eq_append] at *
      obtain ⟨j, rfl, hj⟩ := inR_natR (hml x (by simp))
      have hj0 : j < q1.length := by omega
      have w1 := wrap_i64 (n := pre.length) (by simp at hln; omega)
      have hq := (k4.2 _ (List.getElem_mem hj0)).2
      have hst : stepR r ((m : Int), pre ++ [(j : Int)], ⟨#[]⟩) 93 = (q1[j].to, pre, q1[j].out) := by simp [stepR, symIx, isCallB, isInnB, h2, e2, hj0, w1, rc1, nil_app]
      rw [hst]
      rw [l_impl_Rewriter_rewrite_0]
      by_cases hO : 0 < (q1[j].out).size
      · have hw := writeR0 kk pre q1[j].to q1[j].out hO (by have := hq; omega)
        cases kk
        · simp at hw
          simp [lb_impl_Rewriter_rewrite_0, hk, hch, hwr, hkk, isCallB, isInnB, h2, e2, hj0, w1, rc1, hw, hO, setCells, nvRow, PV.bels]
          done
        · simp at hw
          simp [lb_impl_Rewriter_rewrite_0, hk, hch, hwr, hkk, isCallB, isInnB, h2, e2, hj0, w1, rc1, hw, hO, setCells, nvRow, PV.bels]
          done
      · have hw := writeRe kk pre q1[j].to q1[j].out (ba_nil hO)
        cases kk
        · simp at hw
          simp [lb_impl_Rewriter_rewrite_0, hk, hch, hwr, hkk, isCallB, isInnB, h2, e2, hj0, w1, rc1, hw, hO, setCells, nvRow, PV.bels]
          done
        · simp at hw
          simp [lb_impl_Rewriter_rewrite_0, hk, hch, hwr, hkk, isCallB, isInnB, h2, e2, hj0, w1, rc1, hw, hO, setCells, nvRow, PV.bels]
          done
  · have hkk := ev_kindOfR 97 (by decide)
    simp [symIx] at hkk
    have hst : stepR r ((m : Int), stk, ⟨#[]⟩) 97 = (i0.to, stk, i0.out) := by simp [stepR, symIx, isCallB, isInnB, h3, e3, nil_app]
    rw [hst]
    rw [l_impl_Rewriter_rewrite_0]
    by_cases hO : 0 < (i0.out).size
    · have hw := writeR0 kk stk i0.to i0.out hO (by have := k5.2; omega)
      cases kk
      · simp at hw
        simp [lb_impl_Rewriter_rewrite_0, hk, hch, hwr, hkk, isCallB, isInnB, h3, e3, hw, hO, setCells, nvRow, PV.bels]
        done
      · simp at hw
        simp [lb_impl_Rewriter_rewrite_0, hk, hch, hwr, hkk, isCallB, isInnB, h3, e3, hw, hO, setCells, nvRow, PV.bels]
        done
    · have hw := writeRe kk stk i0.to i0.out (ba_nil hO)
      cases kk
      · simp at hw
        simp [lb_impl_Rewriter_rewrite_0, hk, hch, hwr, hkk, isCallB, isInnB, h3, e3, hw, hO, setCells, nvRow, PV.bels]
        done
      · simp at hw
        simp [lb_impl_Rewriter_rewrite_0, hk, hch, hwr, hkk, isCallB, isInnB, h3, e3, hw, hO, setCells, nvRow, PV.bels]
        done
  · have hkk := ev_kindOfR 98 (by decide)
    simp [symIx] at hkk
    have hst : stepR r ((m : Int), stk, ⟨#[]⟩) 98 = (i1.to, stk, i1.out) := by simp [stepR, symIx, isCallB, isInnB, h3, e3, nil_app]
    rw [hst]
    rw [l_impl_Rewriter_rewrite_0]
    by_cases hO : 0 < (i1.out).size
    · have hw := writeR0 kk stk i1.to i1.out hO (by have := k6.2; omega)
      cases kk
      · simp at hw
        simp [lb_impl_Rewriter_rewrite_0, hk, hch, hwr, hkk, isCallB, isInnB, h3, e3, hw, hO, setCells, nvRow, PV.bels]
        done
      · simp at hw
        simp [lb_impl_Rewriter_rewrite_0, hk, hch, hwr, hkk, isCallB, isInnB, h3, e3, hw, hO, setCells, nvRow, PV.bels]
        done
    · have hw := writeRe kk stk i1.to i1.out (ba_nil hO)
      cases kk
      · simp at hw
        simp [lb_impl_Rewriter_rewrite_0, hk, hch, hwr, hkk, isCallB, isInnB, h3, e3, hw, hO, setCells, nvRow, PV.bels]
        done
      · simp at hw
        simp [lb_impl_Rewriter_rewrite_0, hk, hch, hwr, hkk, isCallB, isInnB, h3, e3, hw, hO, setCells, nvRow, PV.bels]
        done
  · omega
end Go.Proofs.Ytjfpmpbdbpgofaa
