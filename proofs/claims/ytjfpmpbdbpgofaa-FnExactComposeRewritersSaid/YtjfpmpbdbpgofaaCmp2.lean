/- Rewriters composed: the program's ComposeRewriters. -/
import Derived.Test.YtjfpmpbdbpgofaaBuiltR
import Derived.Test.YtjfpmpbdbpgofaaExact
set_option linter.unusedVariables false
set_option linter.unusedSimpArgs false
set_option maxRecDepth 100000
namespace Go.Proofs.Ytjfpmpbdbpgofaa
open Aw
theorem tqR (x y : Nat) : (x : Int).tdiv y = ((x / y : Nat) : Int) := rfl
theorem trR (x y : Nat) : (x : Int).tmod y = ((x % y : Nat) : Int) := rfl
/-- What is known of a run of the second one. -/
theorem cmG_ok {r s : GRewriter} (h : CmI r s) (z : Nat) (stk : List Int) (hl : stk.length ≤ 1) (hm : ∀ m ∈ stk, inR m 0 (s.stack - 1) = true) {w : ByteArray} (hw : okOut w = true) :
    RwI s 1 (((z % s.call.length : Nat) : Int), stk, ⟨#[]⟩) ∧ RwI s (1 + w.size) (cmG s z stk w) := by
  obtain ⟨g1, g2, g3, g4, g5⟩ := okRw_len h.hs
  simp only [inR, Bool.and_eq_true, decide_eq_true_eq] at g1
  have hlt : z % s.call.length < s.call.length := Nat.mod_lt _ (by omega)
  have h0 : RwI s 1 (((z % s.call.length : Nat) : Int), stk, ⟨#[]⟩) := ⟨by simp only [inR, Bool.and_eq_true, decide_eq_true_eq]; omega, hm, hl, Nat.zero_le _⟩
  exact ⟨h0, (goF_all h.hs (okOut_sym hw) h0 emp_sym).2⟩
theorem cmS_ok {r s : GRewriter} (h : CmI r s) (mark : Nat) : (cmS r s mark).length ≤ 1 ∧ ∀ m ∈ cmS r s mark, inR m 0 (s.stack - 1) = true := by
  obtain ⟨g1, g2, g3, g4, g5⟩ := okRw_len h.hs
  simp only [inR, Bool.and_eq_true, decide_eq_true_eq] at g2
  unfold cmS
  split
  · refine ⟨by simp, fun m hm => ?_⟩
    have hm := List.mem_singleton.1 hm
    subst hm
    have := Nat.mod_lt mark (show 0 < s.stack.toNat by omega)
    have hS : (s.stack.toNat : Int) = s.stack := Int.toNat_of_nonneg (by omega)
    generalize mark % s.stack.toNat = q at *
    simp only [inR, Bool.and_eq_true, decide_eq_true_eq]
    omega
  · simp
theorem dfr_nilS : ev fns i_slices_Clone_L_int64 [.val (.slice none 0 0)] [] = some (.own 0 0 0 ([] : List Int).length, [.row 1 (([] : List Int).map Enc.pv) 0]) := by
  have := ev_CloneNil
  simpa using this
set_option maxHeartbeats 4000000 in
theorem ev_cmI {r s : GRewriter} (h : CmI r s) (z k : Nat) (hz : z < r.call.length * s.call.length) (hk : k < 2) :
    ev fns i_impl_ComposeRewriters_3 [i64 z, i64 k, RwF r, .fptr [i64 s.call.length] 0, RwF s] [] = some ((cmI r s z k).v, []) := by
  refine go_impl_ComposeRewriters_3 (by simp) ?_
  obtain ⟨g1, g2, g3, g4, g5⟩ := okRw_len h.hs
  obtain ⟨q1, q2, q3, q4, q5⟩ := okRw_len h.hr
  simp only [inR, Bool.and_eq_true, decide_eq_true_eq] at g1 q1
  have hx : z / s.call.length < r.call.length := (Nat.div_lt_iff_lt_mul (by omega)).2 hz
  obtain ⟨ok, hi, hl, e⟩ := cmInn_ok h.hr hx hk
  obtain ⟨ok1, ok2⟩ := okMove_all ok
  have hso := okOut_size ok2
  obtain ⟨h0, hG⟩ := cmG_ok h z [] (by simp) (by simp) ok2
  have hr := ev_rewrite s h.hs (cmInn r (z / s.call.length) k).out (okOut_sym ok2) (by omega) _ [] 1 (by omega) h0 (.val (.slice none 0 0)) rfl dfr_nilS
  have hst := hG.st
  unfold cmG at hst
  unfold cmI cmG
  simp only
  rw [e] at hr hst ok1 ⊢
  have e1 := tqR z s.call.length
  have e2 := trR z s.call.length
  have z8 : z < 64 := by
    have : r.call.length * s.call.length ≤ 8 * 8 := Nat.mul_le_mul (by omega) (by omega)
    omega
  have hzl : z % s.call.length < s.call.length := Nat.mod_lt _ (by omega)
  generalize z / s.call.length = x at *
  generalize z % s.call.length = y at *
  have n0 : ¬ ((s.call.length : Int) = 0) := by omega
  have n1 : ¬ s.call = [] := fun h => by rw [h] at n0; simp at n0
  have w0 := wrap_i64 (n := (x : Int)) (by omega)
  generalize goF s ((y : Int), [], ⟨#[]⟩) (r.inner[x][k]).out = gg at *
  obtain ⟨G1, G2, G3⟩ := gg
  simp only [inR, Bool.and_eq_true, decide_eq_true_eq] at hst ok1
  have m1 : 0 ≤ (r.inner[x][k]).to * (s.call.length : Int) ∧ (r.inner[x][k]).to * (s.call.length : Int) ≤ 64 := by
    refine ⟨Int.mul_nonneg ok1.1 (by omega), ?_⟩
    exact Int.le_trans (Int.mul_le_mul (show (r.inner[x][k]).to ≤ 8 by omega) (show (s.call.length : Int) ≤ 8 by omega) (by omega) (by omega)) (by omega)
  have w1 := wrap_i64 (n := (r.inner[x][k]).to * (s.call.length : Int)) (by omega)
  have w2 := wrap_i64 (n := (r.inner[x][k]).to * (s.call.length : Int) + G1) (by omega)
  simp at hr
  simp [ac_impl_ComposeRewriters_3, e1, e2, n0, n1, w0, w1, w2, hr, hi, hl, setCells]
  done
theorem len_one {α : Type} {l : List α} (h : l.length = 1) : ∃ x, l = [x] := by
  match l, h with
  | [x], _ => exact ⟨x, rfl⟩
set_option maxHeartbeats 4000000 in
theorem ev_cmC {r s : GRewriter} (h : CmI r s) (z k : Nat) (hz : z < r.call.length * s.call.length) (hk : k < 2) :
    ev fns i_impl_ComposeRewriters_1 [i64 z, i64 k, RwF r, .fptr [i64 s.call.length] 0, RwF s, .fptr [i64 s.stack] 0] [] = some ((cmC r s z k).v, []) := by
  refine go_impl_ComposeRewriters_1 (by simp) ?_
  obtain ⟨g1, g2, g3, g4, g5⟩ := okRw_len h.hs
  obtain ⟨q1, q2, q3, q4, q5⟩ := okRw_len h.hr
  simp only [inR, Bool.and_eq_true, decide_eq_true_eq] at g1 g2 q1 q2
  have hx : z / s.call.length < r.call.length := (Nat.div_lt_iff_lt_mul (by omega)).2 hz
  have hpe := cmPush_pend h.hr h.st hx hk
  obtain ⟨ok, hi, hl, e⟩ := cmPush_ok h.hr hx hk
  obtain ⟨ok1, ok2, ok3⟩ := okPush_all ok
  have hso := okOut_size ok2
  obtain ⟨h0, hG⟩ := cmG_ok h z [] (by simp) (by simp) ok2
  have hr := ev_rewrite s h.hs (cmPush r (z / s.call.length) k).out (okOut_sym ok2) (by omega) _ [] 1 (by omega) h0 (.val (.slice none 0 0)) rfl dfr_nilS
  have hdp := goF_depth s ((z % s.call.length : Nat) : Int) (okOut_sym ok2)
  rw [hpe] at hdp
  have hst := hG.st
  have hmk := hG.mks
  unfold cmG at hst hmk
  unfold cmC cmG
  simp only
  rw [e] at hr hst hmk hdp ok1 ok3 ⊢
  have e1 := tqR z s.call.length
  have e2 := trR z s.call.length
  have z8 : z < 64 := by
    have : r.call.length * s.call.length ≤ 8 * 8 := Nat.mul_le_mul (by omega) (by omega)
    omega
  have hzl : z % s.call.length < s.call.length := Nat.mod_lt _ (by omega)
  generalize z / s.call.length = x at *
  generalize z % s.call.length = y at *
  have n0 : ¬ ((s.call.length : Int) = 0) := by omega
  have n1 : ¬ s.call = [] := fun h => by rw [h] at n0; simp at n0
  have w0 := wrap_i64 (n := (x : Int)) (by omega)
  generalize goF s ((y : Int), [], ⟨#[]⟩) (r.call[x][k]).out = gg at *
  obtain ⟨G1, G2, G3⟩ := gg
  obtain ⟨u, rfl⟩ := len_one hdp
  have hu := hmk u (by simp)
  simp only [inR, Bool.and_eq_true, decide_eq_true_eq] at hst ok1 ok3 hu
  have m1 : 0 ≤ (r.call[x][k]).to * (s.call.length : Int) ∧ (r.call[x][k]).to * (s.call.length : Int) ≤ 64 := by
    refine ⟨Int.mul_nonneg ok1.1 (by omega), ?_⟩
    exact Int.le_trans (Int.mul_le_mul (show (r.call[x][k]).to ≤ 8 by omega) (show (s.call.length : Int) ≤ 8 by omega) (by omega) (by omega)) (by omega)
  have m2 : 0 ≤ (r.call[x][k]).put * s.stack ∧ (r.call[x][k]).put * s.stack ≤ 64 := by
    refine ⟨Int.mul_nonneg ok3.1 (by omega), ?_⟩
    exact Int.le_trans (Int.mul_le_mul (show (r.call[x][k]).put ≤ 8 by omega) (show s.stack ≤ 8 by omega) (by omega) (by omega)) (by omega)
  have w1 := wrap_i64 (n := (r.call[x][k]).to * (s.call.length : Int)) (by omega)
  have w2 := wrap_i64 (n := (r.call[x][k]).to * (s.call.length : Int) + G1) (by omega)
  have w3 := wrap_i64 (n := (r.call[x][k]).put * s.stack) (by omega)
  have w4 := wrap_i64 (n := (r.call[x][k]).put * s.stack + u) (by omega)
  simp at hr
  simp [ac_impl_ComposeRewriters_1, e1, e2, n0, n1, w0, w1, w2, w3, w4, hr, hi, hl, setCells]
  done
theorem ev_marksOf {r s : GRewriter} (h : CmI r s) (mark : Nat) (hm : mark ≤ r.stack.toNat * s.stack.toNat) :
    ∃ P : PV, ev fns i_impl_marksOf [i64 mark, i64 r.stack, i64 s.stack] [] = some (.tup [i64 ((mark / s.stack.toNat : Nat) : Int), P], []) ∧ P.bel 0 = true ∧ P.one = true ∧ (∀ σ d, dfr σ (d + 1) P = some P) ∧
      ev fns i_slices_Clone_L_int64 [P] [] = some (.own 0 0 0 (cmS r s mark).length, [.row 1 ((cmS r s mark).map Enc.pv) 0]) := by
  obtain ⟨g1, g2, g3, g4, g5⟩ := okRw_len h.hs
  obtain ⟨q1, q2, q3, q4, q5⟩ := okRw_len h.hr
  simp only [inR, Bool.and_eq_true, decide_eq_true_eq] at g1 g2 q1 q2
  obtain ⟨S, hS⟩ := Int.eq_ofNat_of_zero_le (show 0 ≤ s.stack by omega)
  obtain ⟨R, hR⟩ := Int.eq_ofNat_of_zero_le (show 0 ≤ r.stack by omega)
  unfold cmS
  rw [hS, hR] at hm ⊢
  simp only [Int.toNat_natCast] at hm ⊢
  have hSR : R * S ≤ 64 := by
    have : R * S ≤ 8 * 8 := Nat.mul_le_mul (by omega) (by omega)
    omega
  have w1 := wrap_i64 (n := (R : Int) * (S : Int)) (by have : (R : Int) * (S : Int) = ((R * S : Nat) : Int) := by simp
                                                       omega)
  have e0 : (R : Int) * (S : Int) = ((R * S : Nat) : Int) := by simp
  by_cases c : mark = R * S
  · subst c
    refine ⟨.val (.slice none 0 0), go_impl_marksOf (by simp) ?_, rfl, by simp [PV.one, Value.oneCell'], fun _ _ => rfl, ?_⟩
    · have hd : R * S / S = R := Nat.mul_div_cancel _ (by omega)
      rw [hd]
      rw [e0] at w1
      simp only [Int.natCast_mul] at w1
      simp [ac_impl_marksOf, w1]
      done
    · rw [if_neg (by omega)]
      exact dfr_nilS
  · have hlt : mark < R * S := by omega
    rw [if_pos hlt]
    have e1 := tqR mark S
    have e2 := trR mark S
    have d1 : mark / S ≤ 64 := Nat.le_trans (Nat.div_le_self _ _) (by omega)
    have hml : mark % S < S := Nat.mod_lt _ (by omega)
    have c' : ¬ ((mark : Int) = (R : Int) * (S : Int)) := by rw [e0]; omega
    generalize mark / S = x at *
    generalize mark % S = y at *
    have w0 := wrap_i64 (n := (x : Int)) (by omega)
    have n0 : ¬ ((S : Int) = 0) := by omega
    have n1 : ¬ S = 0 := by omega
    refine ⟨.list 1 [i64 (y : Int)] false, go_impl_marksOf (by simp) ?_, by simp [PV.bel], rfl, fun _ _ => rfl, ?_⟩
    · simp [ac_impl_marksOf, w1, e1, e2, n0, n1, w0, c']
      done
    · have := ev_CloneL [(y : Int)] (by simp)
      rw [sp_slices_Clone_L_int64] at this ⊢
      simp [spClone] at this ⊢
set_option maxHeartbeats 4000000 in
theorem ev_cmB {r s : GRewriter} (h : CmI r s) (z k mark : Nat) (hz : z < r.call.length * s.call.length) (hk : k < 2) (hm : mark ≤ r.stack.toNat * s.stack.toNat) :
    ev fns i_impl_ComposeRewriters_2 [i64 z, i64 k, i64 mark, RwF r, .fptr [i64 s.stack] 0, .fptr [i64 s.call.length] 0, RwF s] [] = some ((cmB r s z k mark).v, []) := by
  refine go_impl_ComposeRewriters_2 (by simp) ?_
  obtain ⟨g1, g2, g3, g4, g5⟩ := okRw_len h.hs
  obtain ⟨q1, q2, q3, q4, q5⟩ := okRw_len h.hr
  simp only [inR, Bool.and_eq_true, decide_eq_true_eq] at g1 g2 q1 q2
  obtain ⟨P, hmo, hP1, hP2, hP3, hP4⟩ := ev_marksOf h mark hm
  have hx : z / s.call.length < r.call.length := (Nat.div_lt_iff_lt_mul (by omega)).2 hz
  have ho : ((mark / s.stack.toNat : Nat) : Int) ≤ r.stack := by
    have : mark / s.stack.toNat ≤ r.stack.toNat * s.stack.toNat / s.stack.toNat := Nat.div_le_div_right hm
    rw [Nat.mul_div_cancel _ (by omega)] at this
    omega
  obtain ⟨ok, hi, hl, hl3, e⟩ := cmRet_ok h.hr hx hk ho
  obtain ⟨ok1, ok2⟩ := okMove_all ok
  have hso := okOut_size ok2
  obtain ⟨s1, s2⟩ := cmS_ok h mark
  obtain ⟨h0, hG⟩ := cmG_ok h z (cmS r s mark) s1 s2 ok2
  have hr := ev_rewrite s h.hs (cmRet r (z / s.call.length) k (mark / s.stack.toNat)).out (okOut_sym ok2) (by omega) _ (cmS r s mark) 1 (by omega) h0 P hP1 hP4
  have hst := hG.st
  unfold cmG at hst
  unfold cmB cmG
  simp only
  rw [e] at hr hst ok1 ⊢
  have e1 := tqR z s.call.length
  have e2 := trR z s.call.length
  have z8 : z < 64 := by
    have : r.call.length * s.call.length ≤ 8 * 8 := Nat.mul_le_mul (by omega) (by omega)
    omega
  have hzl : z % s.call.length < s.call.length := Nat.mod_lt _ (by omega)
  generalize z / s.call.length = x at *
  generalize z % s.call.length = y at *
  generalize mark / s.stack.toNat = o at *
  generalize cmS r s mark = stk at *
  have n0 : ¬ ((s.call.length : Int) = 0) := by omega
  have n1 : ¬ s.call = [] := fun h => by rw [h] at n0; simp at n0
  have w0 := wrap_i64 (n := (x : Int)) (by omega)
  generalize goF s ((y : Int), stk, ⟨#[]⟩) (r.ret[x][k][o]).out = gg at *
  obtain ⟨G1, G2, G3⟩ := gg
  simp only [inR, Bool.and_eq_true, decide_eq_true_eq] at hst ok1
  have m1 : 0 ≤ (r.ret[x][k][o]).to * (s.call.length : Int) ∧ (r.ret[x][k][o]).to * (s.call.length : Int) ≤ 64 := by
    refine ⟨Int.mul_nonneg ok1.1 (by omega), ?_⟩
    exact Int.le_trans (Int.mul_le_mul (show (r.ret[x][k][o]).to ≤ 8 by omega) (show (s.call.length : Int) ≤ 8 by omega) (by omega) (by omega)) (by omega)
  have w1 := wrap_i64 (n := (r.ret[x][k][o]).to * (s.call.length : Int)) (by omega)
  have w2 := wrap_i64 (n := (r.ret[x][k][o]).to * (s.call.length : Int) + G1) (by omega)
  have hP5 : ∀ n, P.sh n = P := fun n => PV.sh_bel0 _ hP1
  simp at hr hmo
  simp [ac_impl_ComposeRewriters_2, e1, e2, n0, n1, w0, w1, w2, hr, hmo, hP1, hP2, hP3, hP5, hi, hl, hl3, setCells]
  done
end Go.Proofs.Ytjfpmpbdbpgofaa

set_option linter.unusedVariables false
set_option linter.unusedSimpArgs false
set_option maxRecDepth 100000
namespace Go.Proofs.Ytjfpmpbdbpgofaa
open Aw
theorem sum_map_leM {α β : Type} [Siz β] (f : α → β) (B : Nat) : ∀ l : List α, (∀ x ∈ l, Siz.size (f x) ≤ B) → Siz.sum (l.map f) ≤ l.length * B
  | [], _ => Nat.zero_le _
  | x :: l, h => by
    show Siz.size (f x) + Siz.sum (l.map f) ≤ _
    have h1 := h x (List.mem_cons_self ..)
    have h2 := sum_map_leM f B l fun y hy => h y (List.mem_cons_of_mem _ hy)
    rw [List.length_cons, Nat.succ_mul]; omega
theorem size_range_le {β : Type} [Siz β] (f : Nat → β) (n B : Nat) (h : ∀ x, x < n → Siz.size (f x) ≤ B) : Siz.size ((List.range n).map f) ≤ n * (B + 1) := by
  have := sum_map_leM f B (List.range n) fun x hx => h x (List.mem_range.1 hx)
  rw [Siz.size_list, List.length_map, List.length_range, Nat.mul_add]
  rw [List.length_range] at this; omega
theorem cm_bounds {r s : GRewriter} (h : CmI r s) : 1 ≤ cmN r s ∧ cmN r s ≤ 64 ∧ 1 ≤ cmM r s ∧ cmM r s ≤ 64 ∧ ((cmN r s : Nat) : Int) = (r.call.length : Int) * (s.call.length : Int) ∧ ((cmM r s : Nat) : Int) = r.stack * s.stack := by
  obtain ⟨g1, g2, g3, g4, g5⟩ := okRw_len h.hs
  obtain ⟨q1, q2, q3, q4, q5⟩ := okRw_len h.hr
  simp only [inR, Bool.and_eq_true, decide_eq_true_eq] at g1 g2 q1 q2
  obtain ⟨S, hS⟩ := Int.eq_ofNat_of_zero_le (show 0 ≤ s.stack by omega)
  obtain ⟨R, hR⟩ := Int.eq_ofNat_of_zero_le (show 0 ≤ r.stack by omega)
  unfold cmN cmM
  rw [hS, hR]
  simp only [Int.toNat_natCast]
  have a1 : r.call.length * s.call.length ≤ 8 * 8 := Nat.mul_le_mul (by omega) (by omega)
  have a2 : R * S ≤ 8 * 8 := Nat.mul_le_mul (by omega) (by omega)
  have a3 : 1 * 1 ≤ r.call.length * s.call.length := Nat.mul_le_mul (by omega) (by omega)
  have a4 : 1 * 1 ≤ R * S := Nat.mul_le_mul (by omega) (by omega)
  exact ⟨by omega, by omega, by omega, by omega, by simp, by simp⟩
theorem cmC_size {r s : GRewriter} (h : CmI r s) {z k : Nat} (hz : z < cmN r s) (hk : k < 2) : (cmC r s z k).out.size ≤ 20 := by
  obtain ⟨g1, g2, g3, g4, g5⟩ := okRw_len h.hs
  simp only [inR, Bool.and_eq_true, decide_eq_true_eq] at g1
  have hx : z / s.call.length < r.call.length := (Nat.div_lt_iff_lt_mul (by omega)).2 hz
  obtain ⟨ok, -⟩ := cmPush_ok h.hr hx hk
  obtain ⟨-, ok2, -⟩ := okPush_all ok
  have hso := okOut_size ok2
  have := (cmG_ok h z [] (by simp) (by simp) ok2).2.sz
  unfold cmC; simp only; omega
theorem cmB_size {r s : GRewriter} (h : CmI r s) {z k mark : Nat} (hz : z < cmN r s) (hk : k < 2) (hm : mark ≤ cmM r s) : (cmB r s z k mark).out.size ≤ 20 := by
  obtain ⟨g1, g2, g3, g4, g5⟩ := okRw_len h.hs
  obtain ⟨q1, q2, q3, q4, q5⟩ := okRw_len h.hr
  simp only [inR, Bool.and_eq_true, decide_eq_true_eq] at g1 g2 q2
  have hx : z / s.call.length < r.call.length := (Nat.div_lt_iff_lt_mul (by omega)).2 hz
  have ho : ((mark / s.stack.toNat : Nat) : Int) ≤ r.stack := by
    have : mark / s.stack.toNat ≤ r.stack.toNat * s.stack.toNat / s.stack.toNat := Nat.div_le_div_right hm
    rw [Nat.mul_div_cancel _ (by omega)] at this
    omega
  obtain ⟨ok, -⟩ := cmRet_ok h.hr hx hk ho
  obtain ⟨-, ok2⟩ := okMove_all ok
  have hso := okOut_size ok2
  obtain ⟨s1, s2⟩ := cmS_ok h mark
  have := (cmG_ok h z (cmS r s mark) s1 s2 ok2).2.sz
  unfold cmB; simp only; omega
theorem cmI_size {r s : GRewriter} (h : CmI r s) {z k : Nat} (hz : z < cmN r s) (hk : k < 2) : (cmI r s z k).out.size ≤ 20 := by
  obtain ⟨g1, g2, g3, g4, g5⟩ := okRw_len h.hs
  simp only [inR, Bool.and_eq_true, decide_eq_true_eq] at g1
  have hx : z / s.call.length < r.call.length := (Nat.div_lt_iff_lt_mul (by omega)).2 hz
  obtain ⟨ok, -⟩ := cmInn_ok h.hr hx hk
  obtain ⟨-, ok2⟩ := okMove_all ok
  have hso := okOut_size ok2
  have := (cmG_ok h z [] (by simp) (by simp) ok2).2.sz
  unfold cmI; simp only; omega
theorem cmX_size {r s : GRewriter} (h : CmI r s) : Siz.size (cmX r s) ≤ 1048576 := by
  obtain ⟨b1, b2, b3, b4, b5, b6⟩ := cm_bounds h
  rw [size_Rewriter]
  unfold cmX bltRw
  simp only
  have c1 := size_range_le (fun z => (List.range 2).map (cmC r s z)) (cmN r s) (2 * 21) (fun z hz => size_range_le _ 2 20 fun k hk => by rw [size_OutPush, size_str]; exact cmC_size h hz hk)
  have c2 := size_range_le (fun z => (List.range 2).map fun k => (List.range (cmM r s + 1)).map (cmB r s z k)) (cmN r s) (2 * ((cmM r s + 1) * 21 + 1)) (fun z hz => size_range_le _ 2 ((cmM r s + 1) * 21) fun k hk => size_range_le _ (cmM r s + 1) 20 fun m hm => by rw [size_OutMove, size_str]; exact cmB_size h hz hk (by omega))
  have c3 := size_range_le (fun z => (List.range 2).map (cmI r s z)) (cmN r s) (2 * 21) (fun z hz => size_range_le _ 2 20 fun k hk => by rw [size_OutMove, size_str]; exact cmI_size h hz hk)
  have d1 : cmN r s * (2 * 21 + 1) ≤ 64 * 43 := Nat.mul_le_mul b2 (by omega)
  have d2 : cmN r s * (2 * ((cmM r s + 1) * 21 + 1) + 1) ≤ 64 * 2733 := Nat.mul_le_mul b2 (by omega)
  omega
theorem cmX_ok {r s : GRewriter} (h : okRw (cmX r s) = true) : cmN r s ≤ 8 ∧ cmM r s ≤ 8 := by
  obtain ⟨g1, g2, -⟩ := okRw_len h
  unfold cmX bltRw at g1 g2
  simp only [inR, Bool.and_eq_true, decide_eq_true_eq, List.length_map, List.length_range] at g1 g2
  omega
theorem exa_push (d : Nat) (x : GOutPush) : Exa (d + 2) x := exa_flat x fun σ => by simp [dfr, mapO]
theorem exa_move (d : Nat) (x : GOutMove) : Exa (d + 2) x := exa_flat x fun σ => by simp [dfr, mapO]
theorem range_ne {α : Type} (f : Nat → α) {n : Nat} (h : 0 < n) : (List.range n).map f ≠ [] := fun e => by
  have := congrArg List.length e; simp at this; omega
theorem exa_cm {r s : GRewriter} (h : CmI r s) : Exa 8 (cmX r s).call ∧ Exa 8 (cmX r s).ret ∧ Exa 8 (cmX r s).inner := by
  obtain ⟨b1, b2, b3, b4, b5, b6⟩ := cm_bounds h
  refine ⟨Exa.list (range_ne _ (by omega)) fun x hx => ?_, Exa.list (range_ne _ (by omega)) fun x hx => ?_, Exa.list (range_ne _ (by omega)) fun x hx => ?_⟩
  · obtain ⟨z, _, rfl⟩ := List.mem_map.1 hx
    exact Exa.list (range_ne _ (by omega)) fun y _ => exa_push _ y
  · obtain ⟨z, _, rfl⟩ := List.mem_map.1 hx
    refine Exa.list (range_ne _ (by omega)) fun y hy => ?_
    obtain ⟨k, _, rfl⟩ := List.mem_map.1 hy
    exact Exa.list (range_ne _ (by omega)) fun u _ => exa_move _ u
  · obtain ⟨z, _, rfl⟩ := List.mem_map.1 hx
    exact Exa.list (range_ne _ (by omega)) fun y _ => exa_move _ y
/-- What ComposeRewriters answers. -/
def zRw0 : GRewriter := ⟨0, 0, [], [], []⟩
def cmA (r s : GRewriter) : GRewriter × Int :=
  if okRw r = true ∧ okRw s = true then
    if strRw r = true then (if okRw (cmX r s) = true then (cmX r s, 0) else (zRw0, 3)) else (zRw0, 4)
  else (zRw0, 1)
theorem own_zRw0 (σ : List AObj) : OwnIn σ [] zRwB zRw0 := by
  refine ⟨own_Rewriter.2 ⟨[], _, [], _, [], _, [], _, [], _, rfl, rfl, ⟨rfl, rfl⟩, ⟨rfl, rfl⟩, ?_, ?_, ?_⟩, by simp, by simp⟩
  all_goals exact .inl ⟨rfl, rfl, rfl⟩
theorem leC_ComposeRewriters (r : GRewriter) (hr : Siz.size r ≤ 1048576) (s : GRewriter) (hs : Siz.size s ≤ 1048576) : Siz.size (cmA r s).1 ≤ 1048576 := by
  have hz : Siz.size zRw0 ≤ 1048576 := by simp [zRw0, size_Rewriter, Siz.size_list, Siz.sum]
  unfold cmA
  split
  · rename_i h1
    split
    · rename_i h2
      split
      · exact cmX_size ⟨h1.1, h1.2, h2⟩
      · exact hz
    · exact hz
  · exact hz
end Go.Proofs.Ytjfpmpbdbpgofaa
