/- The sizes of typed data. -/
import Derived.Test.YtoliadfdklfmfaaTb
set_option linter.unusedVariables false
set_option linter.unusedSimpArgs false
namespace Go.Proofs.Ytoliadfdklfmfaa
open Aw

/-- How much is in it (the lengths of all lists and texts together), and: no length is out of reach. -/
class Siz (α : Type) where
  size : α → Nat
  fits : α → Prop
instance : Siz Int := ⟨fun _ => 0, fun _ => True⟩
instance : Siz Bool := ⟨fun _ => 0, fun _ => True⟩
instance : Siz ByteArray := ⟨fun s => s.size, fun s => s.size ≤ 9223372036854775807⟩
def Siz.sum {α : Type} [Siz α] : List α → Nat
  | [] => 0
  | x :: xs => Siz.size x + Siz.sum xs
instance {α : Type} [Siz α] : Siz (List α) := ⟨fun xs => xs.length + Siz.sum xs, fun xs => xs.length ≤ 9223372036854775807 ∧ ∀ x ∈ xs, Siz.fits x⟩
theorem size_str (s : ByteArray) : Siz.size s = s.size := rfl
theorem fits_str (s : ByteArray) : Siz.fits s = (s.size ≤ 9223372036854775807) := rfl
theorem Siz.size_list {α : Type} [Siz α] (xs : List α) : Siz.size xs = xs.length + Siz.sum xs := rfl
theorem Siz.fits_len {α : Type} [Siz α] {xs : List α} (h : Siz.fits xs) : xs.length ≤ 9223372036854775807 := h.1
theorem Siz.fits_mem {α : Type} [Siz α] {xs : List α} (h : Siz.fits xs) {x : α} (hx : x ∈ xs) : Siz.fits x := h.2 x hx
theorem Siz.len_le {α : Type} [Siz α] (xs : List α) : xs.length ≤ Siz.size xs := by rw [Siz.size_list]; omega
theorem Siz.sum_mem {α : Type} [Siz α] {x : α} : ∀ {xs : List α}, x ∈ xs → Siz.size x ≤ Siz.sum xs
  | [], h => by simp at h
  | y :: xs, h => by
    simp only [Siz.sum]
    rcases List.mem_cons.1 h with rfl | h
    · omega
    · have := Siz.sum_mem h; omega
theorem Siz.mem_le {α : Type} [Siz α] {x : α} {xs : List α} (h : x ∈ xs) : Siz.size x ≤ Siz.size xs := by rw [Siz.size_list]; have := Siz.sum_mem h; omega
theorem Siz.sum_zero {α : Type} [Siz α] (h : ∀ x : α, Siz.size x = 0) : ∀ xs : List α, Siz.sum xs = 0
  | [] => rfl
  | x :: xs => by simp [Siz.sum, h x, Siz.sum_zero h xs]
theorem Siz.size_flat_int (xs : List Int) : Siz.size xs = xs.length := by rw [Siz.size_list, Siz.sum_zero (fun _ => rfl)]; rfl
theorem Siz.size_flat_bool (xs : List Bool) : Siz.size xs = xs.length := by rw [Siz.size_list, Siz.sum_zero (fun _ => rfl)]; rfl

/-- What is left of a budget. -/
def szR (s : Nat) (n : Int) : Int := if (s : Int) ≤ n then n - s else -1
theorem szR_ok {s : Nat} {n : Int} (h : (s : Int) ≤ n) : szR s n = n - s := if_pos h
theorem szR_no {s : Nat} {n : Int} (h : n < (s : Int)) : szR s n = -1 := if_neg (by omega)
end Go.Proofs.Ytoliadfdklfmfaa
