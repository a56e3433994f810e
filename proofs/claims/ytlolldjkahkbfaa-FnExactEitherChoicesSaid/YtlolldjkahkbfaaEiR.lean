/- Numbers raised: the program's and the reference's. -/
import Derived.Test.YtlolldjkahkbfaaNestS
import Derived.Test.YtlolldjkahkbfaaValidCh4
set_option linter.unusedVariables false
set_option linter.unusedSimpArgs false
set_option maxRecDepth 100000
namespace Go.Proofs.Ytlolldjkahkbfaa
open Aw
theorem steps_to {β : Type} {F : Nat → β} {n : Nat} (h : ∀ k, k < n → F k = F (k + 1)) : F 0 = F n := by
  have : ∀ k, k ≤ n → F 0 = F k := by
    intro k
    induction k with
    | zero => intro _; rfl
    | succ k ih => intro hk; exact (ih (by omega)).trans (h k (by omega))
  exact this n (Nat.le_refl _)
/-- Numbers, each greater by another one. -/
def raiL (l : List Int) (b : Int) : List Int := l.map (· + b)
theorem take_succ_map (l : List Int) (b : Int) (k : Nat) (h : k < l.length) : ((l.take (k + 1)).map (· + b)).map Enc.pv = ((l.take k).map (· + b)).map Enc.pv ++ [i64 (l[k] + b)] := by
  rw [List.take_succ_eq_append_getElem h, List.map_append, List.map_append]; rfl
theorem ev_impl_raised (l : List Int) (b : Int) (hb : ∀ x ∈ l, 0 ≤ x ∧ x ≤ 1000) (h2 : 0 ≤ b ∧ b ≤ 1000) (hl : l.length ≤ 1000) :
    ev fns i_impl_raised [lst 1 l, i64 b] [] = some (.own 0 l.length 0 l.length, [.row 1 ((raiL l b).map Enc.pv) l.length]) := by
  refine go_impl_raised (by simp) ?_
  have lo : ∀ ks, rE fns fa_impl_raised 0 (.code lo_impl_raised_0 :: .inBlock 0 :: ks) [(11, i64 0), (10, i64 l.length), (9, lst 1 l), (5, .own 0 0 0 0), (1, i64 b)] [.row 1 [] 0] =
      rE fns fa_impl_raised 0 ks [(5, .own 0 l.length 0 l.length)] [.row 1 ((raiL l b).map Enc.pv) l.length] := by
    intro ks
    have st := steps_to (F := fun k => rE fns fa_impl_raised 0 (.code lo_impl_raised_0 :: .inBlock 0 :: ks) [(11, i64 (k : Nat)), (10, i64 l.length), (9, lst 1 l), (5, .own 0 k 0 k), (1, i64 b)] [.row 1 (((l.take k).map (· + b)).map Enc.pv) k]) (n := l.length) (fun k hk => by
      have hx := hb _ (List.getElem_mem hk)
      have w1 := wrap_i64 (n := l[k] + b) (by omega)
      have w2 := wrap_i64 (n := k + 1) (by omega)
      have hlt : (k : Int) < l.length := by omega
      have hm : min k l.length = k := by omega
      rw [take_succ_map l b k hk, l_impl_raised_0]
      simp [lb_impl_raised_0, hk, hlt, hm, w1, w2, show k < 999999 by omega, show (k + 1) * 8 ≤ 140737488355328 by omega])
    refine Eq.trans ?_ (st.trans ?_)
    · simp
    · rw [l_impl_raised_0]
      simp [lb_impl_raised_0, raiL]
  have e0 : (0 : Int) = ((0 : Nat) : Int) := rfl
  simp at lo
  simp [ac_impl_raised, lo]
  done
theorem ev_spec_l03Raised (l : List Int) (b : Int) (hb : ∀ x ∈ l, 0 ≤ x ∧ x ≤ 1000) (h2 : 0 ≤ b ∧ b ≤ 1000) (hl : l.length ≤ 1000) :
    ev fns i_spec_l03Raised [lst 1 l, i64 b] [] = some (.own 0 l.length 0 l.length, [.row 1 ((raiL l b).map Enc.pv) l.length]) := by
  refine go_spec_l03Raised (by simp) ?_
  have lo : ∀ ks, rE fns fa_spec_l03Raised 0 (.code lo_spec_l03Raised_0 :: .inBlock 0 :: ks) [(6, i64 0), (5, .own 0 0 0 0), (1, i64 b), (0, lst 1 l)] [.row 1 [] 0] =
      rE fns fa_spec_l03Raised 0 ks [(5, .own 0 l.length 0 l.length)] [.row 1 ((raiL l b).map Enc.pv) l.length] := by
    intro ks
    have st := steps_to (F := fun k => rE fns fa_spec_l03Raised 0 (.code lo_spec_l03Raised_0 :: .inBlock 0 :: ks) [(6, i64 (k : Nat)), (5, .own 0 k 0 k), (1, i64 b), (0, lst 1 l)] [.row 1 (((l.take k).map (· + b)).map Enc.pv) k]) (n := l.length) (fun k hk => by
      have hx := hb _ (List.getElem_mem hk)
      have w1 := wrap_i64 (n := l[k] + b) (by omega)
      have w2 := wrap_i64 (n := k + 1) (by omega)
      have hlt : (k : Int) < l.length := by omega
      have hm : min k l.length = k := by omega
      rw [take_succ_map l b k hk, l_spec_l03Raised_0]
      simp [lb_spec_l03Raised_0, hk, hlt, hm, w1, w2, show k < 999999 by omega, show (k + 1) * 8 ≤ 140737488355328 by omega])
    refine Eq.trans ?_ (st.trans ?_)
    · simp
    · rw [l_spec_l03Raised_0]
      simp [lb_spec_l03Raised_0, raiL]
  simp at lo
  simp [ac_spec_l03Raised, lo]
  done
end Go.Proofs.Ytlolldjkahkbfaa
