/- Unions over states: the reference's. -/
import Derived.Test.YtipmgemnjcjobaaGreatBitAll
set_option linter.unusedVariables false
set_option linter.unusedSimpArgs false
set_option maxRecDepth 100000
namespace Go.Proofs.YtipmgemnjcjobaaGreat
open Aw
/-- The union of what belongs to the bits below k. -/
def imN (b : Nat) (to : Nat → Nat) : Nat → Nat
  | 0 => 0
  | k + 1 => if b / 2 ^ k % 2 = 1 then imN b to k ||| to k else imN b to k
theorem imN_lt {b : Nat} {to : Nat → Nat} (ht : ∀ s, s < 5 → to s < 32) : ∀ k, k ≤ 5 → imN b to k < 32
  | 0, _ => by simp [imN]
  | k + 1, h => by
    have ih := imN_lt (b := b) ht k (by omega)
    unfold imN
    split
    · exact or_lt ih (ht k (by omega))
    · exact ih
set_option maxHeartbeats 4000000 in
theorem ev_spec_l03Image {b : Nat} (hb : b < 32) (n : Nat) (hn : n ≤ 5) (to : Nat → Nat) (ht : ∀ s, s < 5 → to s < 32) : ev fns i_spec_l03Image [i64 b, lst 1 ((List.range n).map fun s => (to s : Int))] [] = some (i64 (imN b to n), []) := by
  have key := fun ks => loop_known (F := fun k (s : Unit) => rE fns fa_spec_l03Image 0 (.code lo_spec_l03Image_0 :: .inBlock 0 :: ks) [(6, i64 (k : Nat)), (5, i64 (imN b to k)), (1, lst 1 ((List.range n).map fun s => (to s : Int))), (0, i64 b)] []) (n := n) (fun _ _ => True)
    (fun k s hk _ => ⟨(), by
      have hw := wrap_i64 (n := k + 1) (by omega)
      have wu := wrap_u64 (n := k) (by omega)
      have p1 := ht k (by omega)
      have b1 := imN_lt (b := b) ht k (by omega)
      have o2 := or_lt b1 p1
      have hs := shr_i8 b (y := k) (by omega)
      have hand := @and_i (b / 2 ^ k)
      have w2 := wrap_i64 (n := ((imN b to k ||| to k : Nat) : Int)) (by omega)
      rw [l_spec_l03Image_0]
      have e : imN b to (k + 1) = if b / 2 ^ k % 2 = 1 then imN b to k ||| to k else imN b to k := rfl
      rw [e]
      generalize b / 2 ^ k = q at *
      rcases Nat.mod_two_eq_zero_or_one q with c2 | c2
      · rw [c2] at hand
        simp [lb_spec_l03Image_0, hk, hs, wu, c2, hand, hw, show IntKind.i64.wrap 0 = 0 by decide]
        done
      · rw [c2] at hand
        simp [lb_spec_l03Image_0, hk, hs, wu, c2, hand, hw, m_i b1, m_i p1, w2, show IntKind.i64.wrap 1 = 1 by decide]
        done, trivial⟩) (s := ()) trivial
  have e2 : ∀ ks, rE fns fa_spec_l03Image 0 (.code lo_spec_l03Image_0 :: .inBlock 0 :: ks) [(6, i64 (n : Nat)), (5, i64 (imN b to n)), (1, lst 1 ((List.range n).map fun s => (to s : Int))), (0, i64 b)] [] = rE fns fa_spec_l03Image 0 ks [(5, i64 (imN b to n))] [] := fun ks => by
    rw [l_spec_l03Image_0]
    simp [lb_spec_l03Image_0]
  have k2 := fun ks => let ⟨_, h, _⟩ := key ks; h
  simp only [e2] at k2
  refine go_spec_l03Image (by simp) ?_
  simp [imN] at k2
  simp [ac_spec_l03Image, k2]
  done
theorem im_all {b : Nat} (hb : b < 32) (to : Nat → Nat) : imN b to 5 = allN b to := by
  have key : ∀ c : Fin 32, imN c.val to 5 = allN c.val to := by
    intro c
    obtain ⟨c, hc⟩ := c
    have h : c = 0 ∨ c = 1 ∨ c = 2 ∨ c = 3 ∨ c = 4 ∨ c = 5 ∨ c = 6 ∨ c = 7 ∨ c = 8 ∨ c = 9 ∨ c = 10 ∨ c = 11 ∨ c = 12 ∨ c = 13 ∨ c = 14 ∨ c = 15 ∨ c = 16 ∨ c = 17 ∨ c = 18 ∨ c = 19 ∨ c = 20 ∨ c = 21 ∨ c = 22 ∨ c = 23 ∨ c = 24 ∨ c = 25 ∨ c = 26 ∨ c = 27 ∨ c = 28 ∨ c = 29 ∨ c = 30 ∨ c = 31 := by omega
    rcases h with rfl | rfl | rfl | rfl | rfl | rfl | rfl | rfl | rfl | rfl | rfl | rfl | rfl | rfl | rfl | rfl | rfl | rfl | rfl | rfl | rfl | rfl | rfl | rfl | rfl | rfl | rfl | rfl | rfl | rfl | rfl | rfl <;> simp [imN, allN, stN, stF]
  exact key ⟨b, hb⟩
theorem im_cut {b n : Nat} (hb : b < 2 ^ n) (to : Nat → Nat) : ∀ d, imN b to (n + d) = imN b to n
  | 0 => rfl
  | d + 1 => by
    have h : b / 2 ^ (n + d) = 0 := Nat.div_eq_of_lt (Nat.lt_of_lt_of_le hb (Nat.pow_le_pow_right (by omega) (by omega)))
    rw [show n + (d + 1) = (n + d) + 1 by omega]
    show (if b / 2 ^ (n + d) % 2 = 1 then imN b to (n + d) ||| to (n + d) else imN b to (n + d)) = _
    rw [h, if_neg (by omega)]
    exact im_cut hb to d
theorem im_allN {b n : Nat} (hn : n ≤ 5) (hb : b < 2 ^ n) (to : Nat → Nat) : imN b to n = allN b to := by
  have h32 : b < 32 := Nat.lt_of_lt_of_le hb (Nat.pow_le_pow_right (n := 2) (by omega) hn)
  rw [← im_all h32, ← im_cut hb to (5 - n), show n + (5 - n) = 5 by omega]
end Go.Proofs.YtipmgemnjcjobaaGreat
