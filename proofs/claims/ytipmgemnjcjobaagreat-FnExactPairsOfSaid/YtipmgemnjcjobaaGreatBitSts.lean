/- Bits as states. -/
import Derived.Test.YtipmgemnjcjobaaGreatBits
set_option linter.unusedVariables false
set_option linter.unusedSimpArgs false
set_option maxRecDepth 100000
namespace Go.Proofs.YtipmgemnjcjobaaGreat
open Aw
/-! ### Bits as states -/
theorem shr_u8 (x : Nat) {y : Nat} (h : y < 8) : intShift .shr .u64 (x : Int) (y : Int) = some (.int .u64 ((x / 2 ^ y : Nat) : Int)) := by
  unfold intShift
  simp only
  rw [if_neg (by omega), Int.toNat_natCast, show min y IntKind.u64.bits = y by simp [IntKind.bits]; omega, Int.fdiv_eq_ediv_of_nonneg _ (by exact Int.le_of_lt (Int.pow_pos (by omega)))]
  simp
theorem shr_i8 (x : Nat) {y : Nat} (h : y < 8) : intShift .shr .i64 (x : Int) (y : Int) = some (.int .i64 ((x / 2 ^ y : Nat) : Int)) := by
  unfold intShift
  simp only
  rw [if_neg (by omega), Int.toNat_natCast, show min y IntKind.i64.bits = y by simp [IntKind.bits]; omega, Int.fdiv_eq_ediv_of_nonneg _ (by exact Int.le_of_lt (Int.pow_pos (by omega)))]
  simp
def stF (b : Nat) : Nat → Nat → List Int
  | _, 0 => []
  | k, d + 1 => if b / 2 ^ k = 0 then [] else (if b / 2 ^ k % 2 = 1 then [(k : Int)] else []) ++ stF b (k + 1) d
/-- The states whose bits are set. -/
def stN (b : Nat) : List Int := stF b 0 6
theorem and_u {x : Nat} : (x % 2 ^ IntKind.u64.bits) &&& (1 % 2 ^ IntKind.u64.bits) = x % 2 := by
  rw [show 1 % 2 ^ IntKind.u64.bits = 1 by decide, Nat.and_one_is_mod, show (2 : Nat) ^ IntKind.u64.bits = 2 * 2 ^ 63 by decide, Nat.mod_mul_right_mod]
theorem and_i {x : Nat} : (x % 2 ^ IntKind.i64.bits) &&& (1 % 2 ^ IntKind.i64.bits) = x % 2 := by
  rw [show 1 % 2 ^ IntKind.i64.bits = 1 by decide, Nat.and_one_is_mod, show (2 : Nat) ^ IntKind.i64.bits = 2 * 2 ^ 63 by decide, Nat.mod_mul_right_mod]
set_option maxHeartbeats 8000000 in
theorem lo_states {b : Nat} (hb : b < 32) (ks : List KI) : ∀ (d k : Nat) (acc : List Int), k + d = 6 → acc.length ≤ k →
    rE fns fa_impl_states 0 (.code lo_impl_states_0 :: .inBlock 0 :: ks) [(4, i64 (k : Nat)), (3, .own 0 0 0 acc.length), (0, u64 b)] [.row 1 (acc.map Enc.pv) 0] =
      rE fns fa_impl_states 0 ks [(3, .own 0 0 0 (acc ++ stF b k d).length)] [.row 1 ((acc ++ stF b k d).map Enc.pv) 0] := by
  intro d
  induction d with
  | zero =>
    intro k acc hk ha
    have k6 : k = 6 := by omega
    subst k6
    have hs := shr_u8 b (y := 6) (by omega)
    have z : b / 2 ^ 6 = 0 := by omega
    rw [z] at hs
    rw [l_impl_states_0]
    simp at hs
    simp [lb_impl_states_0, stF, hs]
    done
  | succ d ih =>
    intro k acc hk ha
    have hs := shr_u8 b (y := k) (by omega)
    have hw := wrap_i64 (n := k + 1) (by omega)
    rw [l_impl_states_0]
    unfold stF
    have hq : b / 2 ^ k ≤ b := Nat.div_le_self _ _
    generalize b / 2 ^ k = q at *
    by_cases c1 : q = 0
    · subst c1
      simp [lb_impl_states_0, hs]
      done
    · have c1' : (0 : Int) < q := by omega
      have c1'' : 0 < q := by omega
      have hand := @and_u q
      rcases Nat.mod_two_eq_zero_or_one q with c2 | c2
      · have ih' := ih (k + 1) acc (by omega) (by omega)
        simp at ih'
        rw [c2] at hand
        simp [lb_impl_states_0, hs, c1, c1', c1'', c2, hand, ih', hw, show IntKind.u64.wrap 0 = 0 by decide, show ¬ (IntKind.u64.wrap 0 = 1) by decide]
        done
      · have ih' := ih (k + 1) (acc ++ [(k : Int)]) (by omega) (by simp; omega)
        simp at ih'
        rw [c2] at hand
        have b1 : (acc.length + 1) * 8 ≤ 140737488355328 := by omega
        simp [lb_impl_states_0, hs, c1, c1', c1'', c2, hand, ih', hw, b1, show IntKind.u64.wrap 1 = 1 by decide, nvRow, PV.bels]
        done
theorem ev_impl_states {b : Nat} (hb : b < 32) : ev fns i_impl_states [u64 b] [] = some (.own 0 0 0 (stN b).length, [.row 1 ((stN b).map Enc.pv) 0]) := by
  have lo := fun ks => lo_states hb ks 6 0 [] (by omega) (by simp)
  have e : stF b 0 6 = stN b := rfl
  simp only [List.nil_append, e] at lo
  refine go_impl_states (by simp) ?_
  have hbel : ∀ l : List Int, PV.bels 1 (l.map Enc.pv) = true := fun l => bels_map l 1
  simp at lo
  simp [ac_impl_states, lo, nvRow, PV.bels, hbel]
  done
set_option maxHeartbeats 8000000 in
theorem lo_l03List {b : Nat} (hb : b < 32) (ks : List KI) : ∀ (d k : Nat) (acc : List Int), k + d = 6 → acc.length ≤ k →
    rE fns fa_spec_l03List 0 (.code lo_spec_l03List_0 :: .inBlock 0 :: ks) [(4, i64 (k : Nat)), (3, .own 0 0 0 acc.length), (0, i64 b)] [.row 1 (acc.map Enc.pv) 0] =
      rE fns fa_spec_l03List 0 ks [(3, .own 0 0 0 (acc ++ stF b k d).length)] [.row 1 ((acc ++ stF b k d).map Enc.pv) 0] := by
  intro d
  induction d with
  | zero =>
    intro k acc hk ha
    have k6 : k = 6 := by omega
    subst k6
    have hs := shr_i8 b (y := 6) (by omega)
    have z : b / 2 ^ 6 = 0 := by omega
    rw [z] at hs
    rw [l_spec_l03List_0]
    simp at hs
    simp [lb_spec_l03List_0, stF, hs, show IntKind.u64.wrap 6 = 6 by decide]
    done
  | succ d ih =>
    intro k acc hk ha
    have hs := shr_i8 b (y := k) (by omega)
    have hw := wrap_i64 (n := k + 1) (by omega)
    have wu := wrap_u64 (n := k) (by omega)
    rw [l_spec_l03List_0]
    unfold stF
    have hq : b / 2 ^ k ≤ b := Nat.div_le_self _ _
    generalize b / 2 ^ k = q at *
    by_cases c1 : q = 0
    · subst c1
      simp [lb_spec_l03List_0, hs, wu]
      done
    · have c1' : (0 : Int) < q := by omega
      have c1'' : 0 < q := by omega
      have hand := @and_i q
      rcases Nat.mod_two_eq_zero_or_one q with c2 | c2
      · have ih' := ih (k + 1) acc (by omega) (by omega)
        simp at ih'
        rw [c2] at hand
        simp [lb_spec_l03List_0, hs, wu, c1, c1', c1'', c2, hand, ih', hw, show IntKind.i64.wrap 0 = 0 by decide, show ¬ (IntKind.i64.wrap 0 = 1) by decide]
        done
      · have ih' := ih (k + 1) (acc ++ [(k : Int)]) (by omega) (by simp; omega)
        simp at ih'
        rw [c2] at hand
        have b1 : (acc.length + 1) * 8 ≤ 140737488355328 := by omega
        simp [lb_spec_l03List_0, hs, wu, c1, c1', c1'', c2, hand, ih', hw, b1, show IntKind.i64.wrap 1 = 1 by decide, nvRow, PV.bels]
        done
theorem ev_spec_l03List {b : Nat} (hb : b < 32) : ev fns i_spec_l03List [i64 b] [] = some (lst 1 (stN b), []) := by
  have lo := fun ks => lo_l03List hb ks 6 0 [] (by omega) (by simp)
  have e : stF b 0 6 = stN b := rfl
  simp only [List.nil_append, e] at lo
  refine go_spec_l03List (by simp) ?_
  have hbel : ∀ l : List Int, PV.bels 1 (l.map Enc.pv) = true := fun l => bels_map l 1
  have hlen : (stN b).length ≤ 140737488355328 := by
    have key : ∀ d k, (stF b k d).length ≤ d := by
      intro d
      induction d with
      | zero => intro k; simp [stF]
      | succ d ih => intro k; unfold stF; split; simp; have := ih (k + 1); split <;> simp <;> omega
    have := key 6 0; rw [e] at this; omega
  simp at lo
  simp [ac_spec_l03List, lo, nvRow, PV.bels, hbel, dfr, mapO, hlen]
  done
end Go.Proofs.YtipmgemnjcjobaaGreat
