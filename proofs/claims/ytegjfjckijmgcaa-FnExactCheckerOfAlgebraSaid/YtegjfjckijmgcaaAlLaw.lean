/- The law of the checker of an algebra. -/
import Derived.Test.YtegjfjckijmgcaaSpAl3
set_option linter.unusedVariables false
set_option linter.unusedSimpArgs false
set_option maxRecDepth 100000
namespace Go.Proofs.Ytegjfjckijmgcaa
open Aw
theorem sum_map_le {α β : Type} [Siz β] (f : α → β) (B : Nat) (h : ∀ x, Siz.size (f x) ≤ B) : ∀ l : List α, Siz.sum (l.map f) ≤ l.length * B
  | [] => Nat.zero_le _
  | x :: l => by
    show Siz.size (f x) + Siz.sum (l.map f) ≤ _
    have h1 := h x
    have h2 := sum_map_le f B h l
    rw [List.length_cons, Nat.succ_mul]; omega
theorem size_map_le {α β : Type} [Siz β] (f : α → β) (B : Nat) (h : ∀ x, Siz.size (f x) ≤ B) (l : List α) : Siz.size (l.map f) ≤ l.length * (B + 1) := by
  have := sum_map_le f B h l
  rw [Siz.size_list, List.length_map, Nat.mul_add]; omega
theorem leC_CheckerOfAlgebra (a : GAlgebra) (hz : Siz.size a ≤ 1048576) : Siz.size (caX a) ≤ 1048576 := by
  unfold caX
  split
  · split
    · simp [size_Checker, Siz.size_list, Siz.sum]
    · rename_i h1 h2
      have hn : a.accept.length ≤ 19 := by unfold ckBig at h2; simp at h2; omega
      rw [size_Checker]
      unfold ckOf bltCk
      simp only
      have b1 : Siz.size ((List.range (2 * a.accept.length + 1)).map (caA a)) ≤ 100 := by rw [Siz.size_flat_bool]; simp; omega
      have b2 := size_map_le (fun s => (List.range 2).map (caC a s)) 2 (fun s => by rw [Siz.size_flat_Push]; simp) (List.range (2 * a.accept.length + 1))
      have b3 := size_map_le (fun s => (List.range 2).map fun k => (List.range (2 * (2 * a.accept.length + 1) + 1)).map (caB a s k)) 164 (fun s => by
        have := size_map_le (fun k => (List.range (2 * (2 * a.accept.length + 1) + 1)).map (caB a s k)) 81 (fun k => by rw [Siz.size_flat_int]; simp; omega) (List.range 2)
        simpa using this) (List.range (2 * a.accept.length + 1))
      have b4 := size_map_le (fun s => (List.range 2).map (caI a s)) 2 (fun s => by rw [Siz.size_flat_int]; simp) (List.range (2 * a.accept.length + 1))
      rw [List.length_range] at b2 b3 b4
      have m : 2 * a.accept.length + 1 ≤ 39 := by omega
      generalize 2 * a.accept.length + 1 = N at *
      omega
  · simp [size_Checker, Siz.size_list, Siz.sum]
end Go.Proofs.Ytegjfjckijmgcaa
