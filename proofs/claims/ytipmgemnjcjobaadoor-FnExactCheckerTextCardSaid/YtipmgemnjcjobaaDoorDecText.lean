/- Numbers below 100 in decimal: the program's and the reference's. -/
import Derived.Test.YtipmgemnjcjobaaDoorSmall
set_option linter.unusedVariables false
set_option linter.unusedSimpArgs false
set_option maxRecDepth 100000
namespace Go.Proofs.YtipmgemnjcjobaaDoor
open Aw
def dg (n : Nat) : ByteArray := ⟨#[UInt8.ofNat (48 + n)]⟩
/-- A number below 100 in decimal. -/
def decT (n : Nat) : ByteArray := if n < 10 then dg n else dg (n / 10) ++ dg (n % 10)
def digT : ByteArray := ⟨#[48, 49, 50, 51, 52, 53, 54, 55, 56, 57, 97, 98, 99, 100, 101, 102, 103, 104, 105, 106, 107, 108, 109, 110, 111, 112, 113, 114, 115, 116, 117, 118, 119, 120, 121, 122]⟩
def smlT : ByteArray := ⟨#[48, 48, 48, 49, 48, 50, 48, 51, 48, 52, 48, 53, 48, 54, 48, 55, 48, 56, 48, 57, 49, 48, 49, 49, 49, 50, 49, 51, 49, 52, 49, 53, 49, 54, 49, 55, 49, 56, 49, 57, 50, 48, 50, 49, 50, 50, 50, 51, 50, 52, 50, 53, 50, 54, 50, 55, 50, 56, 50, 57, 51, 48, 51, 49, 51, 50, 51, 51, 51, 52, 51, 53, 51, 54, 51, 55, 51, 56, 51, 57, 52, 48, 52, 49, 52, 50, 52, 51, 52, 52, 52, 53, 52, 54, 52, 55, 52, 56, 52, 57, 53, 48, 53, 49, 53, 50, 53, 51, 53, 52, 53, 53, 53, 54, 53, 55, 53, 56, 53, 57, 54, 48, 54, 49, 54, 50, 54, 51, 54, 52, 54, 53, 54, 54, 54, 55, 54, 56, 54, 57, 55, 48, 55, 49, 55, 50, 55, 51, 55, 52, 55, 53, 55, 54, 55, 55, 55, 56, 55, 57, 56, 48, 56, 49, 56, 50, 56, 51, 56, 52, 56, 53, 56, 54, 56, 55, 56, 56, 56, 57, 57, 48, 57, 49, 57, 50, 57, 51, 57, 52, 57, 53, 57, 54, 57, 55, 57, 56, 57, 57]⟩
theorem digT_at (n : Nat) (h : n < 10) : digT.extract n (n + 1) = dg n := by
  have key : ∀ k : Fin 10, digT.extract k.val (k.val + 1) = dg k.val := by decide +kernel
  exact key ⟨n, h⟩
theorem smlT_at (n : Nat) (h : n < 100) (h10 : 10 ≤ n) : smlT.extract (n * 2) (n * 2 + 2) = dg (n / 10) ++ dg (n % 10) := by
  have key : ∀ k : Fin 100, 10 ≤ k.val → smlT.extract (k.val * 2) (k.val * 2 + 2) = dg (k.val / 10) ++ dg (k.val % 10) := by decide +kernel
  exact key ⟨n, h⟩ h10
def acSm (L M : ByteArray) : AC := (.seq (.post (.reg [⟨(some 2), .op (.mv (.const (Value.string ⟨#[]⟩))), none⟩]) (.kill [2]))
  (.seq (.seq (.post (.reg [⟨(some 3), .op (.mv (.tmp 0)), none⟩,
    ⟨(some 4), .op (.bin .lss (.tmp 3) (.const (Value.int .i64 10))), none⟩]) (.kill [3]))
  (.cond (.tmp 4) (.ghost (.kill [4]) (.seq (.post (.reg [⟨(some 5), .op (.mv (.tmp 0)), none⟩,
    ⟨(some 6), .op (.mv (.tmp 0)), none⟩,
    ⟨(some 7), .op (.bin .add (.tmp 6) (.const (Value.int .i64 1))), none⟩,
    ⟨(some 8), .op (.slcStr (.const (Value.string L)) (some (.tmp 5)) (some (.tmp 7))), none⟩,
    ⟨(some 2), .op (.mv (.tmp 8)), none⟩]) (.kill [0, 5, 6, 7, 8]))
  .ret))
  (.ghost (.kill [4]) .skip)))
  (.seq (.post (.reg [⟨(some 9), .op (.mv (.tmp 0)), none⟩,
    ⟨(some 10), .op (.bin .mul (.tmp 9) (.const (Value.int .i64 2))), none⟩,
    ⟨(some 11), .op (.mv (.tmp 0)), none⟩,
    ⟨(some 12), .op (.bin .mul (.tmp 11) (.const (Value.int .i64 2))), none⟩,
    ⟨(some 13), .op (.bin .add (.tmp 12) (.const (Value.int .i64 2))), none⟩,
    ⟨(some 14), .op (.slcStr (.const (Value.string M)) (some (.tmp 10)) (some (.tmp 13))), none⟩,
    ⟨(some 2), .op (.mv (.tmp 14)), none⟩]) (.kill [0, 9, 10, 11, 12, 13, 14]))
  .ret)))
theorem acSm_eq : ac_internal_strconv_small = acSm digT smlT := rfl
theorem ev_small (n : Nat) (h : n < 100) : ev fns i_internal_strconv_small [i64 n] [] = some (str (decT n), []) := by
  refine go_internal_strconv_small (by simp) ?_
  rw [acSm_eq]
  have z1 : digT.size = 36 := rfl
  have z2 : smlT.size = 200 := rfl
  have e1 := digT_at n
  have e2 := smlT_at n h
  generalize digT = L at *
  generalize smlT = M at *
  unfold decT
  by_cases h10 : n < 10
  · have hw := wrap_i64 (n := n + 1) (by omega)
    have e := e1 h10
    rw [if_pos h10]
    simp [acSm, hw, h10, e, z1, show n + 1 ≤ 36 by omega, show (0 : Int) ≤ (n : Int) + 1 by omega, show ¬ (10 : Int) ≤ n by omega]
    done
  · have hw := wrap_i64 (n := (n : Int) * 2) (by omega)
    have hw2 := wrap_i64 (n := (n : Int) * 2 + 2) (by omega)
    have e := e2 (by omega)
    rw [if_neg h10]
    simp [acSm, hw, hw2, h10, e, z2, show (0 : Int) ≤ (n : Int) * 2 by omega, show (0 : Int) ≤ (n : Int) * 2 + 2 by omega, show ((n : Int) * 2).toNat = n * 2 by omega, show ((n : Int) * 2 + 2).toNat = n * 2 + 2 by omega, show n * 2 + 2 ≤ 200 by omega, show ¬ (n : Int) < 10 by omega]
    done
theorem ev_decimal (n : Nat) (h : n < 100) : ev fns i_impl_decimal [i64 n] [] = some (str (decT n), []) := by
  have h1 := ev_small n h
  simp at h1
  have h2 : ev fns i_internal_strconv_FormatInt [i64 n, i64 10] [] = some (str (decT n), []) := by
    refine go_internal_strconv_FormatInt (by simp) ?_
    simp [ac_internal_strconv_FormatInt, h1, show (n : Int) < 100 by omega]
  simp at h2
  have h3 : ev fns i_strconv_FormatInt [i64 n, i64 10] [] = some (str (decT n), []) := by
    refine go_strconv_FormatInt (by simp) ?_
    simp [ac_strconv_FormatInt, h2]
  simp at h3
  refine go_impl_decimal (by simp) ?_
  simp [ac_impl_decimal, h3]
theorem dgN (n : Nat) (h : n < 10) : strOfNums [48 + (n : Int)] = dg n := by
  have t' : (48 + (n : Int)).toNat = 48 + n := by omega
  simp [strOfNums, t', dg]
theorem wrapU8 {n : Int} (h : 0 ≤ n ∧ n < 256) : IntKind.u8.wrap n = n := by
  simp [IntKind.wrap, IntKind.bits, IntKind.signed]; omega
theorem ev_Decimal1 (n : Nat) (h : n < 10) : ev fns i_spec_Decimal [i64 n] [] = some (str (dg n), []) := by
  refine go_spec_Decimal (by simp) ?_
  have hw := wrap_i64 (n := 48 + (n : Int)) (by omega)
  have hu := wrapU8 (n := 48 + (n : Int)) (by omega)
  have hd := dgN n h
  simp [ac_spec_Decimal, hw, hu, hd, numsOf, show ¬ (10 : Int) ≤ n by omega]
  done
theorem ev_Decimal (n : Nat) (h : n < 100) : ev fns i_spec_Decimal [i64 n] [] = some (str (decT n), []) := by
  unfold decT
  by_cases h10 : n < 10
  · rw [if_pos h10]; exact ev_Decimal1 n h10
  · rw [if_neg h10]
    have h1 := ev_Decimal1 (n / 10) (by omega)
    have hq : ((n : Int)).tdiv 10 = ((n / 10 : Nat) : Int) := by rw [Int.tdiv_eq_ediv_of_nonneg (by omega)]; omega
    have hr : ((n : Int)).tmod 10 = ((n % 10 : Nat) : Int) := by rw [Int.tmod_eq_emod_of_nonneg (by omega)]; omega
    have hw := wrap_i64 (n := 48 + ((n % 10 : Nat) : Int)) (by omega)
    have hwq := wrap_i64 (n := ((n / 10 : Nat) : Int)) (by omega)
    have hwr := wrap_i64 (n := ((n % 10 : Nat) : Int)) (by omega)
    have hu := wrapU8 (n := 48 + ((n % 10 : Nat) : Int)) (by omega)
    have hd := dgN (n % 10) (by omega)
    have z1 : (dg (n / 10)).size + (dg (n % 10)).size ≤ 9223372036854775807 := by have e : ∀ k, (dg k).size = 1 := fun _ => rfl; rw [e, e]; omega
    generalize n / 10 = q at *
    generalize n % 10 = r at *
    refine go_spec_Decimal (by simp) ?_
    simp at h1
    simp [ac_spec_Decimal, h1, hq, hr, hw, hwq, hwr, hu, hd, z1, numsOf, cz_true, callV_func, dfr, show (10 : Int) ≤ n by omega]
    done
theorem decT_size (n : Nat) : (decT n).size ≤ 2 := by
  unfold decT
  split
  · exact (by decide : 1 ≤ 2)
  · rw [ByteArray.size_append]; exact (by decide : 1 + 1 ≤ 2)
theorem decT_size0 (n : Nat) : 1 ≤ (decT n).size := by
  unfold decT
  split
  · exact (by decide : 1 ≤ 1)
  · rw [ByteArray.size_append]; exact (by decide : 1 ≤ 1 + 1)
end Go.Proofs.YtipmgemnjcjobaaDoor
