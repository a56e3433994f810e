/- Rewriters' runs: the reference's, from any state and stack. -/
import Derived.Test.YtjfpmpbdbpgofaaRwRun2
set_option linter.unusedVariables false
set_option linter.unusedSimpArgs false
set_option maxRecDepth 100000
namespace Go.Proofs.Ytjfpmpbdbpgofaa
open Aw
/-- The reference's state between two symbols. -/
@[simp] abbrev SR (r : GRewriter) (s : RSt) : List AObj := [.row 1 (s.2.1.map Enc.pv) 0, .row 4 [.agg [RwF r, i64 s.1, .own 0 0 0 s.2.1.length, .own 2 0 0 s.2.2.size]] 0, .row 1 (s.2.2.data.toList.map Enc.pv) 0]
set_option maxHeartbeats 8000000 in
theorem stepS (r : GRewriter) (hok : okRw r = true) (w : ByteArray) (k : Nat) (hk : k < w.size) (hL : w.size ≤ 100000) (s : RSt) (B : Nat) (hB : B ≤ 1000) (h : RwI r (B + k) s) (ch : Int) (hch : bt w k = ch) (hc : 0 ≤ symIx ch) (ks : List KI) :
    rE fns fa_spec_l06Reads 0 (.code lo_spec_l06Reads_0 :: .inBlock 0 :: ks) [(10, i64 (k : Nat)), (9, .ptr 1 0 0 0), (3, str w)] (SR r s) =
      rE fns fa_spec_l06Reads 0 (.code lo_spec_l06Reads_0 :: .inBlock 0 :: ks) [(10, i64 ((k + 1 : Nat) : Int)), (9, .ptr 1 0 0 0), (3, str w)] (SR r (stepR r s ch)) := by
  obtain ⟨g1, g2, g3, g4, g5⟩ := okRw_len hok
  simp only [inR, Bool.and_eq_true, decide_eq_true_eq] at g2
  obtain ⟨m, h1, h2, h3, p0, p1, q0, q1, i0, i1, es, e1, e2, e3, k1, k2, k3, k4, k5, k6⟩ := rw_at hok h.st
  have k1 := okPush_to k1
  have k2 := okPush_to k2
  have k3 := okMoves_at k3
  have k4 := okMoves_at k4
  have k5 := okMove_to k5
  have k6 := okMove_to k6
  obtain ⟨st, stk, out⟩ := s
  simp only at es
  subst es
  have hml := h.mks
  have hln := h.ln
  have hsz := h.sz
  simp only at hml hln hsz
  obtain ⟨S, hS⟩ := Int.eq_ofNat_of_zero_le (show 0 ≤ r.stack by omega)
  have l0 : S < q0.length := by omega
  have l1 : S < q1.length := by omega
  have b : (stk.length + 1) * 8 ≤ 140737488355328 := by omega
  have b2 : stk.length + 1 ≤ 140737488355328 := by omega
  have hwr := wrap_i64 (n := k + 1) (by omega)
  rcases symIx_cases ch with rfl | rfl | rfl | rfl | rfl | rfl | ⟨hh, _⟩
  · have bo : out.size + (p0.out).size ≤ 140737488355328 := by have := k1.2.2; omega
    have hst : stepR r ((m : Int), stk, out) 40 = (p0.to, (stk ++ [p0.put]), out ++ p0.out) := by simp [stepR, symIx, isCallB, h1, e1, b, b2]
    have hrd : ev fns i_P_spec_l06Run_read [.ptr 1 0 0 0, u8 40] (SR r ((m : Int), stk, out)) = some (.tup [], [.row 1 (((stk ++ [p0.put])).map Enc.pv) 1, .row 4 [.agg [RwF r, i64 p0.to, .own 0 1 0 ((stk ++ [p0.put])).length, .own 2 1 0 (out ++ p0.out).size]] 0, .row 1 ((out ++ p0.out).data.toList.map Enc.pv) 1]) := by
      refine go_P_spec_l06Run_read (by simp) ?_
      simp [ac_P_spec_l06Run_read, isRetB, isCallB, h1, e1, b, b2, bo, fold_u8, ByteArray.data_append, ByteArray.size_append, setCells, nvRow, PV.bels]
      done
    obtain ⟨d, hd⟩ : ∃ d, d = out ++ p0.out := ⟨_, rfl⟩
    rw [hst]
    rw [← hd] at hrd ⊢
    rw [l_spec_l06Reads_0]
    simp at hrd
    simp [lb_spec_l06Reads_0, hk, hch, hwr, hrd, nvRow, PV.bels]
    done
  · have bo : out.size + (p1.out).size ≤ 140737488355328 := by have := k2.2.2; omega
    have hst : stepR r ((m : Int), stk, out) 91 = (p1.to, (stk ++ [p1.put]), out ++ p1.out) := by simp [stepR, symIx, isCallB, h1, e1, b, b2]
    have hrd : ev fns i_P_spec_l06Run_read [.ptr 1 0 0 0, u8 91] (SR r ((m : Int), stk, out)) = some (.tup [], [.row 1 (((stk ++ [p1.put])).map Enc.pv) 1, .row 4 [.agg [RwF r, i64 p1.to, .own 0 1 0 ((stk ++ [p1.put])).length, .own 2 1 0 (out ++ p1.out).size]] 0, .row 1 ((out ++ p1.out).data.toList.map Enc.pv) 1]) := by
      refine go_P_spec_l06Run_read (by simp) ?_
      simp [ac_P_spec_l06Run_read, isRetB, isCallB, h1, e1, b, b2, bo, fold_u8, ByteArray.data_append, ByteArray.size_append, setCells, nvRow, PV.bels]
      done
    obtain ⟨d, hd⟩ : ∃ d, d = out ++ p1.out := ⟨_, rfl⟩
    rw [hst]
    rw [← hd] at hrd ⊢
    rw [l_spec_l06Reads_0]
    simp at hrd
    simp [lb_spec_l06Reads_0, hk, hch, hwr, hrd, nvRow, PV.bels]
    done
  · rcases List.eq_nil_or_concat stk with rfl | ⟨pre, x, rfl⟩
    · have hq := (k3.2 _ (List.getElem_mem l0)).2
      have bo : out.size + (q0[S].out).size ≤ 140737488355328 := by have := hq; omega
      have hst : stepR r ((m : Int), ([] : List Int), out) 41 = (q0[S].to, [], out ++ q0[S].out) := by simp [stepR, symIx, isCallB, isInnB, h2, e2, h3, e3, hS, l0]
      have hrd : ev fns i_P_spec_l06Run_read [.ptr 1 0 0 0, u8 41] (SR r ((m : Int), ([] : List Int), out)) = some (.tup [], [.row 1 (([] : List Int).map Enc.pv) 0, .row 4 [.agg [RwF r, i64 q0[S].to, .own 0 0 0 ([] : List Int).length, .own 2 1 0 (out ++ q0[S].out).size]] 0, .row 1 ((out ++ q0[S].out).data.toList.map Enc.pv) 1]) := by
        refine go_P_spec_l06Run_read (by simp) ?_
        simp [ac_P_spec_l06Run_read, isRetB, isCallB, isInnB, h2, e2, h3, e3, hS, l0, bo, fold_u8, ByteArray.data_append, ByteArray.size_append, setCells, nvRow, PV.bels]
        done
      obtain ⟨d, hd⟩ : ∃ d, d = out ++ q0[S].out := ⟨_, rfl⟩
      rw [hst]
      rw [← hd] at hrd ⊢
      rw [l_spec_l06Reads_0]
      simp at hrd
      simp [lb_spec_l06Reads_0, hk, hch, hwr, hrd, nvRow, PV.bels]
      done
    · rw [List.concat_eq_append] at *
      obtain ⟨j, rfl, hj⟩ := inR_natR (hml x (by simp))
      have hj0 : j < q0.length := by omega
      have w1 := wrap_i64 (n := pre.length) (by simp at hln; omega)
      have hq := (k3.2 _ (List.getElem_mem hj0)).2
      have bo : out.size + (q0[j].out).size ≤ 140737488355328 := by have := hq; omega
      have hst : stepR r ((m : Int), pre ++ [(j : Int)], out) 41 = (q0[j].to, pre, out ++ q0[j].out) := by simp [stepR, symIx, isCallB, isInnB, h2, e2, h3, e3, hj0, w1, rc1]
      have hrd : ev fns i_P_spec_l06Run_read [.ptr 1 0 0 0, u8 41] (SR r ((m : Int), pre ++ [(j : Int)], out)) = some (.tup [], [.row 1 ((pre ++ [(j : Int)]).map Enc.pv) 0, .row 4 [.agg [RwF r, i64 q0[j].to, .own 0 0 0 (pre).length, .own 2 1 0 (out ++ q0[j].out).size]] 0, .row 1 ((out ++ q0[j].out).data.toList.map Enc.pv) 1]) := by
        refine go_P_spec_l06Run_read (by simp) ?_
        simp [ac_P_spec_l06Run_read, isRetB, isCallB, isInnB, h2, e2, h3, e3, hj0, w1, rc1, bo, fold_u8, ByteArray.data_append, ByteArray.size_append, setCells, nvRow, PV.bels]
        done
      obtain ⟨d, hd⟩ : ∃ d, d = out ++ q0[j].out := ⟨_, rfl⟩
      rw [hst]
      rw [← hd] at hrd ⊢
      rw [l_spec_l06Reads_0]
      simp at hrd
      simp [lb_spec_l06Reads_0, hk, hch, hwr, hrd, nvRow, PV.bels]
      done
  · rcases List.eq_nil_or_concat stk with rfl | ⟨pre, x, rfl⟩
    · have hq := (k4.2 _ (List.getElem_mem l1)).2
      have bo : out.size + (q1[S].out).size ≤ 140737488355328 := by have := hq; omega
      have hst : stepR r ((m : Int), ([] : List Int), out) 93 = (q1[S].to, [], out ++ q1[S].out) := by simp [stepR, symIx, isCallB, isInnB, h2, e2, h3, e3, hS, l1]
      have hrd : ev fns i_P_spec_l06Run_read [.ptr 1 0 0 0, u8 93] (SR r ((m : Int), ([] : List Int), out)) = some (.tup [], [.row 1 (([] : List Int).map Enc.pv) 0, .row 4 [.agg [RwF r, i64 q1[S].to, .own 0 0 0 ([] : List Int).length, .own 2 1 0 (out ++ q1[S].out).size]] 0, .row 1 ((out ++ q1[S].out).data.toList.map Enc.pv) 1]) := by
        refine go_P_spec_l06Run_read (by simp) ?_
        simp [ac_P_spec_l06Run_read, isRetB, isCallB, isInnB, h2, e2, h3, e3, hS, l1, bo, fold_u8, ByteArray.data_append, ByteArray.size_append, setCells, nvRow, PV.bels]
        done
      obtain ⟨d, hd⟩ : ∃ d, d = out ++ q1[S].out := ⟨_, rfl⟩
      rw [hst]
      rw [← hd] at hrd ⊢
      rw [l_spec_l06Reads_0]
      simp at hrd
      simp [lb_spec_l06Reads_0, hk, hch, hwr, hrd, nvRow, PV.bels]
      done
    · rw [List.concat_eq_append] at *
      obtain ⟨j, rfl, hj⟩ := inR_natR (hml x (by simp))
      have hj0 : j < q1.length := by omega
      have w1 := wrap_i64 (n := pre.length) (by simp at hln; omega)
      have hq := (k4.2 _ (List.getElem_mem hj0)).2
      have bo : out.size + (q1[j].out).size ≤ 140737488355328 := by have := hq; omega
      have hst : stepR r ((m : Int), pre ++ [(j : Int)], out) 93 = (q1[j].to, pre, out ++ q1[j].out) := by simp [stepR, symIx, isCallB, isInnB, h2, e2, h3, e3, hj0, w1, rc1]
      have hrd : ev fns i_P_spec_l06Run_read [.ptr 1 0 0 0, u8 93] (SR r ((m : Int), pre ++ [(j : Int)], out)) = some (.tup [], [.row 1 ((pre ++ [(j : Int)]).map Enc.pv) 0, .row 4 [.agg [RwF r, i64 q1[j].to, .own 0 0 0 (pre).length, .own 2 1 0 (out ++ q1[j].out).size]] 0, .row 1 ((out ++ q1[j].out).data.toList.map Enc.pv) 1]) := by
        refine go_P_spec_l06Run_read (by simp) ?_
        simp [ac_P_spec_l06Run_read, isRetB, isCallB, isInnB, h2, e2, h3, e3, hj0, w1, rc1, bo, fold_u8, ByteArray.data_append, ByteArray.size_append, setCells, nvRow, PV.bels]
        done
      obtain ⟨d, hd⟩ : ∃ d, d = out ++ q1[j].out := ⟨_, rfl⟩
      rw [hst]
      rw [← hd] at hrd ⊢
      rw [l_spec_l06Reads_0]
      simp at hrd
      simp [lb_spec_l06Reads_0, hk, hch, hwr, hrd, nvRow, PV.bels]
      done
  · have bo : out.size + (i0.out).size ≤ 140737488355328 := by have := k5.2; omega
    have hst : stepR r ((m : Int), stk, out) 97 = (i0.to, stk, out ++ i0.out) := by simp [stepR, symIx, isCallB, isInnB, h3, e3]
    have hrd : ev fns i_P_spec_l06Run_read [.ptr 1 0 0 0, u8 97] (SR r ((m : Int), stk, out)) = some (.tup [], [.row 1 ((stk).map Enc.pv) 0, .row 4 [.agg [RwF r, i64 i0.to, .own 0 0 0 (stk).length, .own 2 1 0 (out ++ i0.out).size]] 0, .row 1 ((out ++ i0.out).data.toList.map Enc.pv) 1]) := by
      refine go_P_spec_l06Run_read (by simp) ?_
      simp [ac_P_spec_l06Run_read, isRetB, isCallB, isInnB, h3, e3, bo, fold_u8, ByteArray.data_append, ByteArray.size_append, setCells, nvRow, PV.bels]
      done
    obtain ⟨d, hd⟩ : ∃ d, d = out ++ i0.out := ⟨_, rfl⟩
    rw [hst]
    rw [← hd] at hrd ⊢
    rw [l_spec_l06Reads_0]
    simp at hrd
    simp [lb_spec_l06Reads_0, hk, hch, hwr, hrd, nvRow, PV.bels]
    done
  · have bo : out.size + (i1.out).size ≤ 140737488355328 := by have := k6.2; omega
    have hst : stepR r ((m : Int), stk, out) 98 = (i1.to, stk, out ++ i1.out) := by simp [stepR, symIx, isCallB, isInnB, h3, e3]
    have hrd : ev fns i_P_spec_l06Run_read [.ptr 1 0 0 0, u8 98] (SR r ((m : Int), stk, out)) = some (.tup [], [.row 1 ((stk).map Enc.pv) 0, .row 4 [.agg [RwF r, i64 i1.to, .own 0 0 0 (stk).length, .own 2 1 0 (out ++ i1.out).size]] 0, .row 1 ((out ++ i1.out).data.toList.map Enc.pv) 1]) := by
      refine go_P_spec_l06Run_read (by simp) ?_
      simp [ac_P_spec_l06Run_read, isRetB, isCallB, isInnB, h3, e3, bo, fold_u8, ByteArray.data_append, ByteArray.size_append, setCells, nvRow, PV.bels]
      done
    obtain ⟨d, hd⟩ : ∃ d, d = out ++ i1.out := ⟨_, rfl⟩
    rw [hst]
    rw [← hd] at hrd ⊢
    rw [l_spec_l06Reads_0]
    simp at hrd
    simp [lb_spec_l06Reads_0, hk, hch, hwr, hrd, nvRow, PV.bels]
    done
  · omega
theorem lo_reads (r : GRewriter) (hok : okRw r = true) (w : ByteArray) (hw : symWR w) (hL : w.size ≤ 100000) (q : Int) (stk : List Int) (B : Nat) (hB : B ≤ 1000) (h0 : RwI r B (q, stk, ⟨#[]⟩)) (ks : List KI) :
    rE fns fa_spec_l06Reads 0 (.code lo_spec_l06Reads_0 :: .inBlock 0 :: ks) [(10, i64 0), (9, .ptr 1 0 0 0), (3, str w)] (SR r (q, stk, ⟨#[]⟩)) =
      rE fns fa_spec_l06Reads 0 ks [(9, .ptr 1 0 0 0)] (SR r (goF r (q, stk, ⟨#[]⟩) w)) := by
  have lo := loop_fold (F := fun k s => rE fns fa_spec_l06Reads 0 (.code lo_spec_l06Reads_0 :: .inBlock 0 :: ks) [(10, i64 (k : Nat)), (9, .ptr 1 0 0 0), (3, str w)] (SR r s)) (ls := wl w) (f := stepR r) (fun k s => RwI r (B + k) s)
    (fun k s hk hI => by
      have hc := hw _ (List.getElem_mem hk)
      have hk' : k < w.size := by simpa using hk
      have hb := bt_wl hk'
      refine ⟨?_, stepR_ok hok hI hc⟩
      exact stepS r hok w k hk' hL s B hB hI (wl w)[k] hb hc ks)
    (s := (q, stk, ⟨#[]⟩)) h0
  simp only [wl_length] at lo
  refine Eq.trans ?_ (lo.1.trans ?_)
  · rfl
  · rw [l_spec_l06Reads_0]
    simp [lb_spec_l06Reads_0, nvRow, PV.bels, goF]
    done
theorem ev_ownL (l : List Int) (hl : l.length ≤ 1000) (ex : Bool := false) : ev fns i_spec_l00Own [.list 1 (l.map Enc.pv) ex] [] = some (.own 0 0 0 l.length, [.row 1 (l.map Enc.pv) 0]) := by
  refine go_spec_l00Own (by simp) ?_
  simp [ac_spec_l00Own, show l.length * 8 ≤ 140737488355328 by omega, show l.length ≤ 140737488355328 by omega]
  done
theorem ev_reads (r : GRewriter) (hok : okRw r = true) (w : ByteArray) (hw : symWR w) (hL : w.size ≤ 100000) (q : Int) (stk : List Int) (B : Nat) (hB : B ≤ 1000) (h0 : RwI r B (q, stk, ⟨#[]⟩)) (ex : Bool := false) :
    ev fns i_spec_l06Reads [RwF r, i64 q, .list 1 (stk.map Enc.pv) ex, str w] [] = some (.ptr 1 0 0 0, SR r (goF r (q, stk, ⟨#[]⟩) w)) := by
  refine go_spec_l06Reads (by simp) ?_
  have lo := lo_reads r hok w hw hL q stk B hB h0
  have hl : stk.length ≤ 1000 := by have := h0.ln; simp only at this; omega
  have ho := ev_ownL stk hl ex
  have e0 : (⟨#[]⟩ : ByteArray).size = 0 := rfl
  try simp at ho
  try simp [e0] at lo
  simp [ac_spec_l06Reads, lo, ho, nvRow, PV.bels, setCells]
  done
theorem wl_app (a b : ByteArray) : wl (a ++ b) = wl a ++ wl b := by simp [wl, ByteArray.data_append]
theorem okOut_sym {t : ByteArray} (h : okOut t = true) : symWR t := by
  simp only [okOut, Bool.and_eq_true] at h; exact okWord_symR h.1
theorem stepR_sym {r : GRewriter} (hok : okRw r = true) {L : Nat} {s : RSt} (h : RwI r L s) {ch : Int} (hc : 0 ≤ symIx ch) (hs : symWR s.2.2) : symWR (stepR r s ch).2.2 := by
  obtain ⟨g1, g2, g3, g4, g5⟩ := okRw_len hok
  simp only [inR, Bool.and_eq_true, decide_eq_true_eq] at g2
  obtain ⟨m, h1, h2, h3, p0, p1, q0, q1, i0, i1, es, e1, e2, e3, k1, k2, k3, k4, k5, k6⟩ := rw_at hok h.st
  have l3 := (okMoves_at k3).1
  have l4 := (okMoves_at k4).1
  simp only [okPush, okMoves, okMove, Bool.and_eq_true, List.all_eq_true, decide_eq_true_eq] at k1 k2 k3 k4 k5 k6
  have o0 := okOut_sym k1.1.2
  have o1 := okOut_sym k2.1.2
  have o2 := okOut_sym k5.2
  have o3 := okOut_sym k6.2
  obtain ⟨st, stk, out⟩ := s
  simp only at es hs
  subst es
  have hml := h.mks
  simp only at hml
  have app : ∀ {a b : ByteArray}, symWR a → symWR b → symWR (a ++ b) := fun ha hb c hx => by
    rw [wl_app] at hx
    rcases List.mem_append.1 hx with hx | hx
    · exact ha c hx
    · exact hb c hx
  have gq : ∀ (q : List GOutMove), ((q.length : Int) = r.stack + 1) → (∀ x ∈ q, okOut x.out = true) → ∀ j : Nat, (j : Int) ≤ r.stack → symWR (q.getD j ⟨0, ⟨#[]⟩⟩).out := by
    intro q hq hx j hj
    have hj' : j < q.length := by omega
    rw [getD_at hj']
    exact okOut_sym (hx _ (List.getElem_mem hj'))
  rcases symIx_cases ch with rfl | rfl | rfl | rfl | rfl | rfl | ⟨hh, _⟩
  · simpa [stepR, isCallB, symIx, h1, e1] using app hs o0
  · simpa [stepR, isCallB, symIx, h1, e1] using app hs o1
  · rcases List.eq_nil_or_concat stk with rfl | ⟨pre, x, rfl⟩
    · simpa [stepR, isCallB, isInnB, symIx, h2, e2] using app hs (gq q0 l3 (fun x hx => (k3.2 x hx).2) r.stack.toNat (by omega))
    · rw [List.concat_eq_append] at *
      obtain ⟨j, rfl, hj⟩ := inR_natR (hml x (by simp))
      simpa [stepR, isCallB, isInnB, symIx, h2, e2] using app hs (gq q0 l3 (fun x hx => (k3.2 x hx).2) j (by omega))
  · rcases List.eq_nil_or_concat stk with rfl | ⟨pre, x, rfl⟩
    · simpa [stepR, isCallB, isInnB, symIx, h2, e2] using app hs (gq q1 l4 (fun x hx => (k4.2 x hx).2) r.stack.toNat (by omega))
    · rw [List.concat_eq_append] at *
      obtain ⟨j, rfl, hj⟩ := inR_natR (hml x (by simp))
      simpa [stepR, isCallB, isInnB, symIx, h2, e2] using app hs (gq q1 l4 (fun x hx => (k4.2 x hx).2) j (by omega))
  · simpa [stepR, isCallB, isInnB, symIx, h3, e3] using app hs o2
  · simpa [stepR, isCallB, isInnB, symIx, h3, e3] using app hs o3
  · omega
theorem fold_sym {r : GRewriter} (hok : okRw r = true) : ∀ (cs : List Int) (L : Nat) (s : RSt), RwI r L s → (∀ c ∈ cs, 0 ≤ symIx c) → symWR s.2.2 → symWR (cs.foldl (stepR r) s).2.2 ∧ RwI r (L + cs.length) (cs.foldl (stepR r) s)
  | [], L, s, h, _, hs => ⟨hs, h⟩
  | c :: cs, L, s, h, hc, hs => by
    have hc0 := hc c (List.mem_cons_self ..)
    have := fold_sym hok cs (L + 1) (stepR r s c) (stepR_ok hok h hc0) (fun x hx => hc x (List.mem_cons_of_mem _ hx)) (stepR_sym hok h hc0 hs)
    rw [List.foldl_cons, List.length_cons]
    rw [show L + (cs.length + 1) = L + 1 + cs.length by omega]
    exact this
theorem emp_sym : symWR ⟨#[]⟩ := fun c hc => by
  have : wl (⟨#[]⟩ : ByteArray) = [] := rfl
  rw [this] at hc; cases hc
theorem goF_all {r : GRewriter} (hok : okRw r = true) {w : ByteArray} (hw : symWR w) {B : Nat} {s : RSt} (h : RwI r B s) (hs : symWR s.2.2) : symWR (goF r s w).2.2 ∧ RwI r (B + w.size) (goF r s w) := by
  have := fold_sym hok (wl w) B s h hw hs
  rwa [wl_length] at this
end Go.Proofs.Ytjfpmpbdbpgofaa
