/- The text of a checker: the program's and the reference's; the law FnExactCheckerText, run. -/
import Derived.Test.YtipmgemnjcjobaaDoorBld
import Derived.Test.YtipmgemnjcjobaaDoorValidCk
set_option linter.unusedVariables false
set_option linter.unusedSimpArgs false
set_option maxRecDepth 100000
namespace Go.Proofs.YtipmgemnjcjobaaDoor
open Aw
abbrev nlC : ByteArray := ⟨#[10]⟩
abbrev yesC : ByteArray := ⟨#[121, 101, 115]⟩
abbrev noC : ByteArray := ⟨#[110, 111]⟩
abbrev ckC : ByteArray := ⟨#[99, 104, 101, 99, 107, 101, 114]⟩
@[simp] theorem nls_ints : ∀ l : List Int, PV.nls (l.map Enc.pv) = true
  | [] => rfl
  | x :: l => by
    have h := nls_ints l
    show (PV.nl (Enc.pv x) && PV.nls (l.map Enc.pv)) = true
    rw [h]; rfl
def ynT (a : Bool) : ByteArray := if a = true then yesC else noC
theorem ynT_size (a : Bool) : 0 < (ynT a).size ∧ (ynT a).size ≤ 3 := by cases a <;> decide
/-- The numbers of a state's line. -/
def rowL (c : GChecker) (s : Nat) : List Int := ((c.call.getD s []).flatMap fun p => [p.to, p.put]) ++ ((c.ret.getD s []).getD 0 [] ++ ((c.ret.getD s []).getD 1 [] ++ c.inner.getD s []))
def lineT (c : GChecker) (s : Nat) : ByteArray := wordsT (ynT (c.accept.getD s false)) (rowL c s)
def headT (c : GChecker) : ByteArray := wordsT ckC [(c.accept.length : Int), c.stack, c.start]
def ckT (c : GChecker) : ByteArray := (List.range c.accept.length).foldl (fun b s => b ++ lineT c s) (headT c)
def ckA (c : GChecker) : ByteArray := if okCk c = true then ckT c else ⟨#[]⟩
theorem wordsL_append (w : ByteArray) (a b : List Int) : wordsL w (a ++ b) = wordsL (wordsL w a) b := List.foldl_append
theorem wordsL_size : ∀ (l : List Int) (w : ByteArray), (wordsL w l).size ≤ w.size + 3 * l.length
  | [], w => by simp [wordsL]
  | x :: l, w => by
    have h1 := wordsL_size l (w ++ (⟨#[32]⟩ ++ decT x.toNat))
    have h2 := sp_size x.toNat
    rw [ByteArray.size_append] at h1
    have e : wordsL w (x :: l) = wordsL (w ++ (⟨#[32]⟩ ++ decT x.toNat)) l := rfl
    rw [e, List.length_cons]; omega
theorem wordsT_sizeC (w : ByteArray) (l : List Int) : (wordsT w l).size ≤ w.size + 3 * l.length + 1 := by
  have h := wordsL_size l w
  have q : (⟨#[10]⟩ : ByteArray).size = 1 := rfl
  unfold wordsT
  rw [ByteArray.size_append]; omega
/-- What is known of a state's line. -/
structure RowI (c : GChecker) (s : Nat) (p0 p1 : GPush) (q0 q1 : List Int) (i0 i1 : Int) : Prop where
  call : c.call[s]? = some [p0, p1]
  ret : c.ret[s]? = some [q0, q1]
  inner : c.inner[s]? = some [i0, i1]
  num : ∀ x ∈ [p0.to, p0.put, p1.to, p1.put] ++ (q0 ++ (q1 ++ [i0, i1])), 0 ≤ x ∧ x < 100
  l0 : q0.length ≤ 81
  l1 : q1.length ≤ 81
theorem RowI.row {c : GChecker} {s : Nat} {p0 p1 : GPush} {q0 q1 : List Int} {i0 i1 : Int} (h : RowI c s p0 p1 q0 q1 i0 i1) : rowL c s = [p0.to, p0.put, p1.to, p1.put] ++ (q0 ++ (q1 ++ [i0, i1])) := by
  simp [rowL, List.getD_eq_getElem?_getD, h.call, h.ret, h.inner]
theorem okSts_num {n m : Int} {l : List Int} (h : okSts n m l = true) (hn : n ≤ 40) : ∀ x ∈ l, 0 ≤ x ∧ x < 100 := by
  simp only [okSts, Bool.and_eq_true, List.all_eq_true, inR, decide_eq_true_eq] at h
  intro x hx
  have := h.2 x hx
  omega
theorem row_of {c : GChecker} (h : okCk c = true) {s : Nat} (hs : s < c.accept.length) : ∃ p0 p1 q0 q1 i0 i1, RowI c s p0 p1 q0 q1 i0 i1 := by
  obtain ⟨g1, g2, g3, g4, g5, g6⟩ := okCk_len h
  have a1 : s < c.call.length := by omega
  have a2 : s < c.ret.length := by omega
  have a3 : s < c.inner.length := by omega
  obtain ⟨p0, p1, q0, q1, i0, i1, e1, e2, e3, k1, k2, k3, k4, k5, k6⟩ := okCkRow_two (okCk_row h hs a1 a2 a3)
  simp only [inR, Bool.and_eq_true, decide_eq_true_eq] at g1 g2 k5 k6
  have m0 := okSts_num k3 (by omega)
  have m1 := okSts_num k4 (by omega)
  simp only [okPsh, okSts, inR, Bool.and_eq_true, decide_eq_true_eq] at k1 k2 k3 k4
  refine ⟨p0, p1, q0, q1, i0, i1, by rw [List.getElem?_eq_getElem a1, e1], by rw [List.getElem?_eq_getElem a2, e2], by rw [List.getElem?_eq_getElem a3, e3], ?_, by omega, by omega⟩
  intro x hx
  simp only [List.mem_append, List.mem_cons, List.not_mem_nil, or_false] at hx
  rcases hx with (rfl | rfl | rfl | rfl) | hx | hx | rfl | rfl
  · omega
  · omega
  · omega
  · omega
  · exact m0 x hx
  · exact m1 x hx
  · omega
  · omega
theorem ev_GrowC (n : Nat) (h0 : 0 < n) (hn : n ≤ 100000) : ev fns i_slices_Grow_L_int64 [.val (.slice none 0 0), i64 n] [] = some (.own 0 0 0 0, [.row 1 [] 0]) := by
  refine go_slices_Grow_L_int64 (by simp) ?_
  have hw := wrap_i64 (n := (n : Int)) (by omega)
  have b1 : n * 8 ≤ 140737488355328 := by omega
  have hb : ∀ k m, PV.bels k (List.replicate m (anyE 1)) = true := fun k m => bels_replicate (by simp [anyE, PV.bel]) m
  simp [ac_slices_Grow_L_int64, hw, h0, b1, hb, show ¬ ((n : Int) < 0) by omega, show (0 : Int) < n by omega, nvRow, PV.bels]
  done
set_option maxHeartbeats 8000000 in
theorem ev_Concat4 (a b d e : List Int) (xa xb xd xe ex : Bool) (h0 : 0 < a.length) (ha : a.length ≤ 1000) (hb : b.length ≤ 1000) (hd : d.length ≤ 1000) (he : e.length ≤ 1000) :
    ev fns i_slices_Concat_L_int64 [.list 1 [.list 1 (a.map Enc.pv) xa, .list 1 (b.map Enc.pv) xb, .list 1 (d.map Enc.pv) xd, .list 1 (e.map Enc.pv) xe] ex] [] = some (.own 0 0 0 (a ++ (b ++ (d ++ e))).length, [.row 1 ((a ++ (b ++ (d ++ e))).map Enc.pv) 0]) := by
  refine go_slices_Concat_L_int64 (by simp) ?_
  have w1 : IntKind.i64.wrap 1 = 1 := by decide
  have w2 : IntKind.i64.wrap 2 = 2 := by decide
  have w3 : IntKind.i64.wrap 3 = 3 := by decide
  have w4 : IntKind.i64.wrap 4 = 4 := by decide
  have wa := wrap_i64 (n := (a.length : Int)) (by omega)
  have wb := wrap_i64 (n := (a.length : Int) + b.length) (by omega)
  have wd := wrap_i64 (n := (a.length : Int) + b.length + d.length) (by omega)
  have we := wrap_i64 (n := (a.length : Int) + b.length + d.length + e.length) (by omega)
  have hg := ev_GrowC (a.length + b.length + d.length + e.length) (by omega) (by omega)
  have c1 : a.length * 8 ≤ 140737488355328 := by omega
  have c2 : (a.length + b.length) * 8 ≤ 140737488355328 := by omega
  have c3 : (a.length + (b.length + d.length)) * 8 ≤ 140737488355328 := by omega
  have c4 : (a.length + (b.length + (d.length + e.length))) * 8 ≤ 140737488355328 := by omega
  have c3' : (a.length + b.length + d.length) * 8 ≤ 140737488355328 := by omega
  have c4' : (a.length + b.length + d.length + e.length) * 8 ≤ 140737488355328 := by omega
  have c5 : a.length + (b.length + (d.length + e.length)) ≤ 140737488355328 := by omega
  have c5' : a.length + b.length + d.length + e.length ≤ 140737488355328 := by omega
  simp at hg
  simp [ac_slices_Concat_L_int64]
  rw [l_slices_Concat_L_int64_0]
  simp [lb_slices_Concat_L_int64_0, w1, w2, w3, w4, wa, show ¬ ((a.length : Int) < 0) by omega]
  rw [l_slices_Concat_L_int64_0]
  simp [lb_slices_Concat_L_int64_0, w1, w2, w3, w4, wb, show ¬ ((a.length : Int) + b.length < 0) by omega]
  rw [l_slices_Concat_L_int64_0]
  simp [lb_slices_Concat_L_int64_0, w1, w2, w3, w4, wd, show ¬ ((a.length : Int) + b.length + d.length < 0) by omega]
  rw [l_slices_Concat_L_int64_0]
  simp [lb_slices_Concat_L_int64_0, w1, w2, w3, w4, we, show ¬ ((a.length : Int) + b.length + d.length + e.length < 0) by omega]
  rw [l_slices_Concat_L_int64_0]
  simp [lb_slices_Concat_L_int64_0, hg]
  rw [l_slices_Concat_L_int64_1]
  simp [lb_slices_Concat_L_int64_1, w1, w2, w3, w4, c1, nvRow, PV.bels, Nat.add_assoc]
  rw [l_slices_Concat_L_int64_1]
  simp [lb_slices_Concat_L_int64_1, w1, w2, w3, w4, c2, nvRow, PV.bels, Nat.add_assoc]
  rw [l_slices_Concat_L_int64_1]
  simp [lb_slices_Concat_L_int64_1, w1, w2, w3, w4, c3, c3', nvRow, PV.bels, Nat.add_assoc]
  rw [l_slices_Concat_L_int64_1]
  simp [lb_slices_Concat_L_int64_1, w1, w2, w3, w4, c4, c4', nvRow, PV.bels, Nat.add_assoc]
  rw [l_slices_Concat_L_int64_1]
  simp [lb_slices_Concat_L_int64_1, w1, w2, w3, w4, c4, c4', c5, c5', nvRow, PV.bels, Nat.add_assoc]
  done
theorem ev_yes (a : Bool) : ev fns i_impl_yes [bol a] [] = some (str (ynT a), []) := by
  refine go_impl_yes (by simp) ?_
  cases a <;> simp [ac_impl_yes, ynT]
theorem ev_sizeB (l : List Bool) : ev fns i_impl_size_bool [lst 1 l] [] = some (i64 l.length, []) := by
  refine go_impl_size_bool (by simp) ?_
  simp [ac_impl_size_bool]
/-- The reference's row. -/
theorem ev_l02Row (ex : Bool) (w : ByteArray) (l : List Int) (hw : w.size ≤ 100000) (hl : l.length ≤ 100000) (hn : ∀ x ∈ l, 0 ≤ x ∧ x < 100) :
    ev fns i_spec_l02Row [str w, .list 1 (l.map Enc.pv) ex] [] = some (str (wordsL w l), []) := by
  refine go_spec_l02Row (by simp) ?_
  have lo := fun ks => loop_fold (F := fun k b => rE fns fa_spec_l02Row 0 (.code lo_spec_l02Row_0 :: .inBlock 0 :: ks) [(5, i64 (k : Nat)), (1, .list 1 (l.map Enc.pv) ex), (0, str b)] []) (ls := l) (f := fun b n => b ++ (⟨#[32]⟩ ++ decT n.toNat)) (fun k b => b.size ≤ 100000 + 3 * k)
    (fun k b hk hI => by
      obtain ⟨hx0, hx1⟩ := hn _ (List.getElem_mem hk)
      obtain ⟨n, hx, hn1⟩ : ∃ n : Nat, l[k] = n ∧ n < 100 := ⟨l[k].toNat, by omega, by omega⟩
      have hd := ev_Decimal n hn1
      have hs := sp_size n
      have hs0 := decT_size n
      have q1 : (⟨#[32]⟩ : ByteArray).size = 1 := rfl
      have hwr := wrap_i64 (n := k + 1) (by omega)
      rw [hx]
      refine ⟨?_, by rw [ByteArray.size_append]; simp only [Int.toNat_natCast]; omega⟩
      rw [l_spec_l02Row_0]
      simp at hd
      simp [lb_spec_l02Row_0, hk, hx, hwr, hd, show (⟨#[32]⟩ : ByteArray).size + (decT n).size ≤ 9223372036854775807 by omega, show b.size + ((⟨#[32]⟩ : ByteArray).size + (decT n).size) ≤ 9223372036854775807 by omega]
      done)
    (s := w) (by omega)
  have lo1 : ∀ ks, rE fns fa_spec_l02Row 0 (.code lo_spec_l02Row_0 :: .inBlock 0 :: ks) [(5, i64 0), (1, .list 1 (l.map Enc.pv) ex), (0, str w)] [] = rE fns fa_spec_l02Row 0 ks [(0, str (wordsL w l))] [] := fun ks => by
    refine Eq.trans ?_ ((lo ks).1.trans ?_)
    · rfl
    · rw [l_spec_l02Row_0]
      simp [lb_spec_l02Row_0, wordsL]
      done
  simp at lo1
  simp [ac_spec_l02Row, lo1]
  done
theorem rowI_len {c : GChecker} {s : Nat} {p0 p1 : GPush} {q0 q1 : List Int} {i0 i1 : Int} (h : RowI c s p0 p1 q0 q1 i0 i1) : (rowL c s).length ≤ 168 := by
  have h1 := h.l0
  have h2 := h.l1
  rw [h.row]; simp; omega
theorem lineT_size {c : GChecker} (h : okCk c = true) {s : Nat} (hs : s < c.accept.length) : (lineT c s).size ≤ 600 := by
  obtain ⟨p0, p1, q0, q1, i0, i1, hr⟩ := row_of h hs
  have h1 := rowI_len hr
  have h2 := wordsT_sizeC (ynT (c.accept.getD s false)) (rowL c s)
  have h3 := ynT_size (c.accept.getD s false)
  unfold lineT; omega
theorem headT_size (c : GChecker) : (headT c).size ≤ 100 := by
  have h2 := wordsT_sizeC ckC [(c.accept.length : Int), c.stack, c.start]
  have q : ckC.size = 7 := rfl
  simp only [List.length_cons, List.length_nil] at h2
  unfold headT; omega
set_option maxHeartbeats 8000000 in
theorem lo_sts (c : GChecker) (hok : okCk c = true) (ks : List KI) :
    rE fns fa_impl_CheckerText 0 (.code lo_impl_CheckerText_1 :: .inBlock 0 :: ks) [(24, i64 0), (23, i64 c.accept.length), (22, lst 1 c.accept), (3, str (headT c)), (1, CkP c)] [] =
      rE fns fa_impl_CheckerText 0 ks [(3, str (ckT c))] [] := by
  obtain ⟨g1, g2, g3, g4, g5, g6⟩ := okCk_len hok
  simp only [inR, Bool.and_eq_true, decide_eq_true_eq] at g1 g2 g3
  have lo := loop_fold (F := fun k b => rE fns fa_impl_CheckerText 0 (.code lo_impl_CheckerText_1 :: .inBlock 0 :: ks) [(24, i64 (k : Nat)), (23, i64 c.accept.length), (22, lst 1 c.accept), (3, str b), (1, CkP c)] []) (ls := List.range c.accept.length) (f := fun b s => b ++ lineT c s) (fun k b => b.size ≤ 1000 * (k + 1))
    (fun k b hk hI => by
      have hk' : k < c.accept.length := by simpa using hk
      rw [List.getElem_range]
      obtain ⟨p0, p1, q0, q1, i0, i1, hr⟩ := row_of hok hk'
      have hsz := lineT_size hok hk'
      refine ⟨?_, by rw [ByteArray.size_append]; omega⟩
      have hwr := wrap_i64 (n := k + 1) (by omega)
      have w1 : IntKind.i64.wrap 1 = 1 := by decide
      have w2 : IntKind.i64.wrap 2 = 2 := by decide
      have hl0 := hr.l0
      have hl1 := hr.l1
      have e1 : c.call[k]? = some [p0, p1] := hr.call
      have e2 : c.ret[k]? = some [q0, q1] := hr.ret
      have e3 : c.inner[k]? = some [i0, i1] := hr.inner
      have a1 : k < c.call.length := by omega
      have a2 : k < c.ret.length := by omega
      have a3 : k < c.inner.length := by omega
      rw [List.getElem?_eq_getElem a1] at e1; injection e1 with e1
      rw [List.getElem?_eq_getElem a2] at e2; injection e2 with e2
      rw [List.getElem?_eq_getElem a3] at e3; injection e3 with e3
      obtain ⟨y, hy⟩ : ∃ y, y = c.accept[k] := ⟨_, rfl⟩
      have hy1 := hy.symm
      have hyT : c.accept.getD k false = y := by rw [List.getD_eq_getElem?_getD, List.getElem?_eq_getElem hk', hy1]; rfl
      have hyes := ev_yes y
      have hyz : ∀ σ, cz true (callV fns (ev fns)) (.val (.func (.func i_impl_yes) #[] #[])) [.val (.bool y)] σ = some (str (ynT y), σ) := fun σ => by
        simp at hyes
        simp [cz_true, callV_func, hyes, dfr]
      have hrow := hr.row
      have hnum := hr.num
      obtain ⟨R, hR⟩ : ∃ R, R = rowL c k := ⟨_, rfl⟩
      have hRl : R.length ≤ 140737488355328 := by rw [hR]; have := rowI_len hr; omega
      have hct : ∀ xa ex, ev fns i_slices_Concat_L_int64 [.list 1 [.list 1 ([p0.to, p0.put, p1.to, p1.put].map Enc.pv) xa, .list 1 (q0.map Enc.pv) false, .list 1 (q1.map Enc.pv) false, .list 1 ([i0, i1].map Enc.pv) false] ex] [] = some (.own 0 0 0 R.length, [.row 1 (R.map Enc.pv) 0]) := fun xa ex => by
        have := ev_Concat4 [p0.to, p0.put, p1.to, p1.put] q0 q1 [i0, i1] xa false false false ex (by simp) (by simp) (by omega) (by omega) (by simp)
        rw [← hrow, ← hR] at this
        exact this
      have hwd := ev_impl_words false (ynT y) (rowL c k) (ynT_size y).1 (by have := (ynT_size y).2; omega) (by have := rowI_len hr; omega) (by rw [hrow]; exact hnum)
      rw [show wordsT (ynT y) (rowL c k) = lineT c k by unfold lineT; rw [hyT], ← hR] at hwd
      obtain ⟨T, hT⟩ : ∃ T, T = lineT c k := ⟨_, rfl⟩
      rw [← hT] at hwd hsz ⊢
      rw [l_impl_CheckerText_1]
      simp at hct hwd
      simp [lb_impl_CheckerText_1, hk', a1, a2, a3, e1, e2, e3, hy1, hwr, hyz]
      rw [l_impl_CheckerText_0]
      simp [lb_impl_CheckerText_0, w1, w2, nvRow, PV.bels]
      rw [l_impl_CheckerText_0]
      simp [lb_impl_CheckerText_0, w1, w2, nvRow, PV.bels]
      rw [l_impl_CheckerText_0]
      simp [lb_impl_CheckerText_0, w1, w2, nvRow, PV.bels, hk', a1, a2, a3, e1, e2, e3, hy1, hwr, hyz, hct, hwd, dfr, mapO, hRl, show b.size + T.size ≤ 9223372036854775807 by omega]
      done)
    (s := headT c) (by have := headT_size c; omega)
  have l1 := lo.1
  rw [List.length_range] at l1
  refine Eq.trans ?_ (l1.trans ?_)
  · rfl
  · rw [l_impl_CheckerText_1]
    simp [lb_impl_CheckerText_1, ckT]
    done
set_option maxHeartbeats 8000000 in
theorem ev_impl_CheckerText (c : GChecker) (hz : Siz.size c ≤ 1048576) : ev fns i_impl_CheckerText [c.v] [] = some (str (ckA c), []) := by
  refine go_impl_CheckerText (by simp) ?_
  have hv := ev_impl_ValidChecker c hz
  unfold ckA
  cases ok : okCk c
  · rw [ok] at hv
    simp at hv
    simp [ac_impl_CheckerText, hv]
    done
  · rw [ok] at hv
    have lo := lo_sts c ok
    obtain ⟨g1, g2, g3, g4, g5, g6⟩ := okCk_len ok
    simp only [inR, Bool.and_eq_true, decide_eq_true_eq] at g1 g2 g3
    have hs := ev_sizeB c.accept
    have hw := fun ex => ev_impl_words ex ckC [(c.accept.length : Int), c.stack, c.start] (by decide) (by decide) (by simp) (by
      intro x hx
      simp at hx
      rcases hx with rfl | rfl | rfl <;> omega)
    simp only [show wordsT ckC [(c.accept.length : Int), c.stack, c.start] = headT c from rfl] at hw
    simp at hv lo hs hw
    simp [ac_impl_CheckerText, hv, hs, hw, lo]
    done
set_option maxHeartbeats 8000000 in
theorem lo_stsS (c : GChecker) (hok : okCk c = true) (ks : List KI) :
    rE fns fa_spec_CheckerText 0 (.code lo_spec_CheckerText_1 :: .inBlock 0 :: ks) [(4, i64 0), (3, str (headT c)), (1, CkP c)] [] =
      rE fns fa_spec_CheckerText 0 ks [(3, str (ckT c))] [] := by
  obtain ⟨g1, g2, g3, g4, g5, g6⟩ := okCk_len hok
  simp only [inR, Bool.and_eq_true, decide_eq_true_eq] at g1 g2 g3
  have lo := loop_fold (F := fun k b => rE fns fa_spec_CheckerText 0 (.code lo_spec_CheckerText_1 :: .inBlock 0 :: ks) [(4, i64 (k : Nat)), (3, str b), (1, CkP c)] []) (ls := List.range c.accept.length) (f := fun b s => b ++ lineT c s) (fun k b => b.size ≤ 1000 * (k + 1))
    (fun k b hk hI => by
      have hk' : k < c.accept.length := by simpa using hk
      rw [List.getElem_range]
      obtain ⟨p0, p1, q0, q1, i0, i1, hr⟩ := row_of hok hk'
      have hsz := lineT_size hok hk'
      refine ⟨?_, by rw [ByteArray.size_append]; omega⟩
      have hwr := wrap_i64 (n := k + 1) (by omega)
      have w1 : IntKind.i64.wrap 1 = 1 := by decide
      have w2 : IntKind.i64.wrap 2 = 2 := by decide
      have hl0 := hr.l0
      have hl1 := hr.l1
      have e1 : c.call[k]? = some [p0, p1] := hr.call
      have e2 : c.ret[k]? = some [q0, q1] := hr.ret
      have e3 : c.inner[k]? = some [i0, i1] := hr.inner
      have a1 : k < c.call.length := by omega
      have a2 : k < c.ret.length := by omega
      have a3 : k < c.inner.length := by omega
      rw [List.getElem?_eq_getElem a1] at e1; injection e1 with e1
      rw [List.getElem?_eq_getElem a2] at e2; injection e2 with e2
      rw [List.getElem?_eq_getElem a3] at e3; injection e3 with e3
      obtain ⟨y, hy⟩ : ∃ y, y = c.accept[k] := ⟨_, rfl⟩
      have hy1 := hy.symm
      have hyT : c.accept.getD k false = y := by rw [List.getD_eq_getElem?_getD, List.getElem?_eq_getElem hk', hy1]; rfl
      have hrow := hr.row
      have hnum := hr.num
      obtain ⟨u0, hu0⟩ : ∃ u, u = ynT y := ⟨_, rfl⟩
      obtain ⟨u1, hu1⟩ : ∃ u, u = wordsL u0 [p0.to, p0.put] := ⟨_, rfl⟩
      obtain ⟨u2, hu2⟩ : ∃ u, u = wordsL u1 [p1.to, p1.put] := ⟨_, rfl⟩
      obtain ⟨u3, hu3⟩ : ∃ u, u = wordsL u2 q0 := ⟨_, rfl⟩
      obtain ⟨u4, hu4⟩ : ∃ u, u = wordsL u3 q1 := ⟨_, rfl⟩
      obtain ⟨u5, hu5⟩ : ∃ u, u = wordsL u4 [i0, i1] := ⟨_, rfl⟩
      have z0 : u0.size ≤ 3 := by rw [hu0]; exact (ynT_size y).2
      have z1 : u1.size ≤ u0.size + 3 * 2 := by rw [hu1]; exact wordsL_size _ _
      have z2 : u2.size ≤ u1.size + 3 * 2 := by rw [hu2]; exact wordsL_size _ _
      have z3 : u3.size ≤ u2.size + 3 * q0.length := by rw [hu3]; exact wordsL_size _ _
      have z4 : u4.size ≤ u3.size + 3 * q1.length := by rw [hu4]; exact wordsL_size _ _
      have z5 : u5.size ≤ u4.size + 3 * 2 := by rw [hu5]; exact wordsL_size _ _
      have hT : lineT c k = u5 ++ nlC := by
        unfold lineT wordsT
        rw [hyT, hrow, wordsL_append, wordsL_append, wordsL_append, hu5, hu4, hu3, hu2, hu1, hu0]
        rfl
      have r1 := fun ex => ev_l02Row ex u0 [p0.to, p0.put] (by omega) (by simp) (fun x hx => hnum x (by simp at hx; rcases hx with rfl | rfl <;> simp))
      have r2 := fun ex => ev_l02Row ex u1 [p1.to, p1.put] (by omega) (by simp) (fun x hx => hnum x (by simp at hx; rcases hx with rfl | rfl <;> simp))
      have r3 := fun ex => ev_l02Row ex u2 q0 (by omega) (by omega) (fun x hx => hnum x (by simp [hx]))
      have r4 := fun ex => ev_l02Row ex u3 q1 (by omega) (by omega) (fun x hx => hnum x (by simp [hx]))
      have r5 := fun ex => ev_l02Row ex u4 [i0, i1] (by omega) (by simp) (fun x hx => hnum x (by simp at hx; rcases hx with rfl | rfl <;> simp))
      simp only [← hu1, ← hu2, ← hu3, ← hu4, ← hu5] at r1 r2 r3 r4 r5
      have qn : nlC.size = 1 := rfl
      have c1 : u5.size + nlC.size ≤ 9223372036854775807 := by omega
      have c2 : b.size + (u5.size + nlC.size) ≤ 9223372036854775807 := by omega
      rw [hT]
      clear hsz hT hrow hnum
      rw [l_spec_CheckerText_1]
      simp at r1 r2 r3 r4 r5
      cases y
      · have hu0 : u0 = noC := hu0
        subst hu0
        simp [lb_spec_CheckerText_1, hk', a1, a2, a3, e1, e2, e3, hy1, hwr]
        rw [l_spec_CheckerText_0]
        simp [lb_spec_CheckerText_0, hk', a1, a2, a3, e1, e2, e3, hy1, hwr, r1, w1, w2]
        rw [l_spec_CheckerText_0]
        simp [lb_spec_CheckerText_0, hk', a1, a2, a3, e1, e2, e3, hy1, hwr, r2, w1, w2]
        rw [l_spec_CheckerText_0]
        simp [lb_spec_CheckerText_0, hk', a1, a2, a3, e1, e2, e3, hy1, hwr, r3, r4, r5, w1, w2, c1, c2]
        done
      · have hu0 : u0 = yesC := hu0
        subst hu0
        simp [lb_spec_CheckerText_1, hk', a1, a2, a3, e1, e2, e3, hy1, hwr]
        rw [l_spec_CheckerText_0]
        simp [lb_spec_CheckerText_0, hk', a1, a2, a3, e1, e2, e3, hy1, hwr, r1, w1, w2]
        rw [l_spec_CheckerText_0]
        simp [lb_spec_CheckerText_0, hk', a1, a2, a3, e1, e2, e3, hy1, hwr, r2, w1, w2]
        rw [l_spec_CheckerText_0]
        simp [lb_spec_CheckerText_0, hk', a1, a2, a3, e1, e2, e3, hy1, hwr, r3, r4, r5, w1, w2, c1, c2]
        done)
    (s := headT c) (by have := headT_size c; omega)
  have l1 := lo.1
  rw [List.length_range] at l1
  refine Eq.trans ?_ (l1.trans ?_)
  · rfl
  · rw [l_spec_CheckerText_1]
    simp [lb_spec_CheckerText_1, ckT]
    done
set_option maxHeartbeats 8000000 in
theorem ev_spec_CheckerText (c : GChecker) (hz : Siz.size c ≤ 1048576) : ev fns i_spec_CheckerText [c.v] [] = some (str (ckA c), []) := by
  refine go_spec_CheckerText (by simp) ?_
  have hv := ev_spec_l02Ok c hz
  unfold ckA
  cases ok : okCk c
  · rw [ok] at hv
    simp at hv
    simp [ac_spec_CheckerText, hv]
    done
  · rw [ok] at hv
    have lo := lo_stsS c ok
    obtain ⟨g1, g2, g3, g4, g5, g6⟩ := okCk_len ok
    simp only [inR, Bool.and_eq_true, decide_eq_true_eq] at g1 g2 g3
    obtain ⟨u, hu⟩ : ∃ u, u = wordsL ckC [(c.accept.length : Int), c.stack, c.start] := ⟨_, rfl⟩
    have hw := fun ex => ev_l02Row ex ckC [(c.accept.length : Int), c.stack, c.start] (by decide) (by simp) (by
      intro x hx
      simp at hx
      rcases hx with rfl | rfl | rfl <;> omega)
    have hh : headT c = u ++ nlC := by unfold headT wordsT; rw [hu]
    have hs := headT_size c
    rw [hh] at lo
    rw [hh, ByteArray.size_append] at hs
    simp only [← hu] at hw
    simp at hv lo hw
    simp [ac_spec_CheckerText, hv, hw, lo, show u.size + nlC.size ≤ 9223372036854775807 by omega]
    done
theorem ev_FnExactCheckerText (a : GChecker) (fa : Siz.fits a) : ev fns i_laws_FnExactCheckerText [a.v] [] = some (bol true, []) := by
  refine go_laws_FnExactCheckerText (by simp) ?_
  have e1 := ev_laws_szChecker a 1048576 (by omega) (by omega) fa
  by_cases c1 : (Siz.size a : Int) ≤ 1048576
  · rw [szR_ok c1] at e1
    have h1 := ev_laws_toChecker a (by omega)
    have h3 := ev_spec_CheckerText a (by omega)
    have h4 := ev_impl_CheckerText a (by omega)
    have h5 := ev_laws_eqChecker a a (by omega)
    simp [ac_laws_FnExactCheckerText, e1, show ¬ ((1048576 : Int) - Siz.size a < 0) by omega, h1, h3, h4, h5]
    done
  · rw [szR_no (by omega)] at e1
    simp [ac_laws_FnExactCheckerText, e1]
end Go.Proofs.YtipmgemnjcjobaaDoor
