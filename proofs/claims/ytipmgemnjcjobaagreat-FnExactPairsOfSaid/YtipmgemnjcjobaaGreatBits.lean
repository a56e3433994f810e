/- States as bits: the program's and the reference's. -/
import Derived.Test.YtipmgemnjcjobaaGreatValidCh4
set_option linter.unusedVariables false
set_option linter.unusedSimpArgs false
set_option maxRecDepth 100000
namespace Go.Proofs.YtipmgemnjcjobaaGreat
open Aw
@[simp] abbrev u64 (n : Int) : PV := .val (.int .u64 n)
theorem wrap_u64 {n : Int} (h : 0 ≤ n ∧ n < 18446744073709551616) : IntKind.u64.wrap n = n := by
  simp [IntKind.wrap, IntKind.bits, IntKind.signed]; omega
theorem bv_nat (x : Nat) : BitVec.ofInt 64 (x : Int) = BitVec.ofNat 64 x := by simp
theorem or_nat {x y : Nat} (hx : x < 32) (hy : y < 32) : (BitVec.ofInt 64 (x : Int) ||| BitVec.ofInt 64 (y : Int)).toNat = x ||| y := by
  rw [bv_nat, bv_nat, BitVec.toNat_or, BitVec.toNat_ofNat, BitVec.toNat_ofNat, Nat.mod_eq_of_lt (by omega), Nat.mod_eq_of_lt (by omega)]
theorem or_u {x y : Nat} (hx : x < 32) (hy : y < 32) : (BitVec.ofInt IntKind.u64.bits (x : Int) ||| BitVec.ofInt IntKind.u64.bits (y : Int)).toNat = x ||| y := or_nat hx hy
theorem or_i {x y : Nat} (hx : x < 32) (hy : y < 32) : (BitVec.ofInt IntKind.i64.bits (x : Int) ||| BitVec.ofInt IntKind.i64.bits (y : Int)).toNat = x ||| y := or_nat hx hy
theorem m_u {x : Nat} (h : x < 32) : x % 2 ^ IntKind.u64.bits = x := Nat.mod_eq_of_lt (Nat.lt_of_lt_of_le h (by decide))
theorem m_i {x : Nat} (h : x < 32) : x % 2 ^ IntKind.i64.bits = x := Nat.mod_eq_of_lt (Nat.lt_of_lt_of_le h (by decide))
theorem or_lt {x y : Nat} (hx : x < 32) (hy : y < 32) : x ||| y < 32 := Nat.or_lt_two_pow (n := 5) hx hy
theorem and_nat {x : Nat} (hx : x < 32) : (BitVec.ofInt 64 (x : Int) &&& BitVec.ofInt 64 1).toNat = x % 2 := by
  have : BitVec.ofInt 64 1 = BitVec.ofNat 64 1 := by decide
  rw [bv_nat, this, BitVec.toNat_and, BitVec.toNat_ofNat, BitVec.toNat_ofNat, Nat.mod_eq_of_lt (by omega), Nat.mod_eq_of_lt (by omega), Nat.and_one_is_mod]
theorem pow_lt32 {s : Nat} (h : s < 5) : 2 ^ s < 32 := Nat.pow_lt_pow_right (a := 2) (m := s) (n := 5) (by omega) h
/-- Numbers as bits. -/
def bitsL (l : List Int) : Nat := l.foldl (fun o s => o ||| 2 ^ s.toNat) 0
def Sts (l : List Int) : Prop := ∀ x ∈ l, 0 ≤ x ∧ x < 5
theorem bitsL_lt {l : List Int} (h : Sts l) : bitsL l < 32 := by
  have key : ∀ (l : List Int) (o : Nat), Sts l → o < 32 → l.foldl (fun o s => o ||| 2 ^ s.toNat) o < 32 := by
    intro l
    induction l with
    | nil => intro o _ h; exact h
    | cons x l ih =>
      intro o hl ho
      have hx := hl x (List.mem_cons_self ..)
      exact ih _ (fun y hy => hl y (List.mem_cons_of_mem _ hy)) (or_lt ho (pow_lt32 (by omega)))
  exact key l 0 h (by omega)
theorem bitsL_take {l : List Int} {k : Nat} (h : k < l.length) : bitsL (l.take (k + 1)) = bitsL (l.take k) ||| 2 ^ (l[k]).toNat := by
  rw [List.take_add_one, List.getElem?_eq_getElem h]
  unfold bitsL
  rw [List.foldl_append]; rfl
theorem Sts.take {l : List Int} (h : Sts l) (k : Nat) : Sts (l.take k) := fun x hx => h x (List.mem_of_mem_take hx)
theorem min64 {s : Nat} (h : s < 5) : min s 64 = s := by omega
theorem shl_u {y : Nat} (h : y < 5) : intShift .shl .u64 1 (y : Int) = some (.int .u64 ((2 ^ y : Nat) : Int)) := by
  have : y = 0 ∨ y = 1 ∨ y = 2 ∨ y = 3 ∨ y = 4 := by omega
  rcases this with rfl | rfl | rfl | rfl | rfl <;> rfl
theorem shl_i {y : Nat} (h : y < 5) : intShift .shl .i64 1 (y : Int) = some (.int .i64 ((2 ^ y : Nat) : Int)) := by
  have : y = 0 ∨ y = 1 ∨ y = 2 ∨ y = 3 ∨ y = 4 := by omega
  rcases this with rfl | rfl | rfl | rfl | rfl <;> rfl
theorem shr_u (x : Nat) {y : Nat} (h : y < 6) : intShift .shr .u64 (x : Int) (y : Int) = some (.int .u64 ((x / 2 ^ y : Nat) : Int)) := by
  unfold intShift
  simp only
  rw [if_neg (by omega), Int.toNat_natCast, show min y IntKind.u64.bits = y by simp [IntKind.bits]; omega, Int.fdiv_eq_ediv_of_nonneg _ (by exact Int.le_of_lt (Int.pow_pos (by omega)))]
  simp
theorem shr_i (x : Nat) {y : Nat} (h : y < 6) : intShift .shr .i64 (x : Int) (y : Int) = some (.int .i64 ((x / 2 ^ y : Nat) : Int)) := by
  unfold intShift
  simp only
  rw [if_neg (by omega), Int.toNat_natCast, show min y IntKind.i64.bits = y by simp [IntKind.bits]; omega, Int.fdiv_eq_ediv_of_nonneg _ (by exact Int.le_of_lt (Int.pow_pos (by omega)))]
  simp
set_option maxHeartbeats 4000000 in
theorem ev_impl_bits (l : List Int) (hl : l.length ≤ 1048576) (h : Sts l) : ev fns i_impl_bits [lst 1 l] [] = some (u64 (bitsL l), []) := by
  refine go_impl_bits (by simp) ?_
  have key := fun ks => loop_known (F := fun k (s : Unit) => rE fns fa_impl_bits 0 (.code lo_impl_bits_0 :: .inBlock 0 :: ks) [(8, i64 (k : Nat)), (7, i64 l.length), (6, lst 1 l), (3, u64 (bitsL (l.take k)))] []) (n := l.length) (fun _ _ => True)
    (fun k s hk _ => ⟨(), by
      have hx := h l[k] (List.getElem_mem hk)
      obtain ⟨y, hy⟩ : ∃ y : Nat, l[k] = y := ⟨(l[k]).toNat, by omega⟩
      have hy5 : y < 5 := by omega
      have hw := wrap_i64 (n := k + 1) (by omega)
      have p1 := pow_lt32 hy5
      have b1 := bitsL_lt (h.take k)
      have hs := shl_u hy5
      have o1 := or_u b1 p1
      have o2 := or_lt b1 p1
      rw [l_impl_bits_0, bitsL_take hk, hy]
      have ty : ((y : Nat) : Int).toNat = y := by omega
      rw [ty]
      generalize 2 ^ y = z at *
      have w2 := wrap_u64 (n := ((bitsL (l.take k) ||| z : Nat) : Int)) (by omega)
      simp [lb_impl_bits_0, hk, hy, hs, m_u b1, m_u p1, w2, hw]
      done, trivial⟩) (s := ()) trivial
  have e0 : bitsL (l.take 0) = 0 := rfl
  have e1 : l.take l.length = l := List.take_length
  have e2 : ∀ ks, rE fns fa_impl_bits 0 (.code lo_impl_bits_0 :: .inBlock 0 :: ks) [(8, i64 (l.length : Nat)), (7, i64 l.length), (6, lst 1 l), (3, u64 (bitsL l))] [] = rE fns fa_impl_bits 0 ks [(3, u64 (bitsL l))] [] := fun ks => by
    rw [l_impl_bits_0]
    simp [lb_impl_bits_0]
  have k2 := fun ks => let ⟨_, h, _⟩ := key ks; h
  simp only [e0, e1, e2] at k2
  simp at k2
  simp [ac_impl_bits, k2]
set_option maxHeartbeats 4000000 in
theorem ev_spec_l03Bits (l : List Int) (hl : l.length ≤ 1048576) (h : Sts l) : ev fns i_spec_l03Bits [lst 1 l] [] = some (i64 (bitsL l), []) := by
  refine go_spec_l03Bits (by simp) ?_
  have key := fun ks => loop_known (F := fun k (s : Unit) => rE fns fa_spec_l03Bits 0 (.code lo_spec_l03Bits_0 :: .inBlock 0 :: ks) [(4, i64 (k : Nat)), (3, i64 (bitsL (l.take k))), (0, lst 1 l)] []) (n := l.length) (fun _ _ => True)
    (fun k s hk _ => ⟨(), by
      have hx := h l[k] (List.getElem_mem hk)
      obtain ⟨y, hy⟩ : ∃ y : Nat, l[k] = y := ⟨(l[k]).toNat, by omega⟩
      have hy5 : y < 5 := by omega
      have hw := wrap_i64 (n := k + 1) (by omega)
      have p1 := pow_lt32 hy5
      have b1 := bitsL_lt (h.take k)
      have hs := shl_i hy5
      have o1 := or_i b1 p1
      have o2 := or_lt b1 p1
      rw [l_spec_l03Bits_0, bitsL_take hk, hy]
      have ty : ((y : Nat) : Int).toNat = y := by omega
      rw [ty]
      generalize 2 ^ y = z at *
      have w2 := wrap_i64 (n := ((bitsL (l.take k) ||| z : Nat) : Int)) (by omega)
      simp [lb_spec_l03Bits_0, hk, hy, hs, wrap_u64 (n := (y : Int)) (by omega), m_i b1, m_i p1, w2, hw]
      done, trivial⟩) (s := ()) trivial
  have e0 : bitsL (l.take 0) = 0 := rfl
  have e1 : l.take l.length = l := List.take_length
  have e2 : ∀ ks, rE fns fa_spec_l03Bits 0 (.code lo_spec_l03Bits_0 :: .inBlock 0 :: ks) [(4, i64 (l.length : Nat)), (3, i64 (bitsL l)), (0, lst 1 l)] [] = rE fns fa_spec_l03Bits 0 ks [(3, i64 (bitsL l))] [] := fun ks => by
    rw [l_spec_l03Bits_0]
    simp [lb_spec_l03Bits_0]
  have k2 := fun ks => let ⟨_, h, _⟩ := key ks; h
  simp only [e0, e1, e2] at k2
  simp at k2
  simp [ac_spec_l03Bits, k2]
end Go.Proofs.YtipmgemnjcjobaaGreat
