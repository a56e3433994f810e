/- Texts that marks write: laws.markText. -/
import Derived.Test.YtjfpmpbdbpgofaaLoops
set_option linter.unusedVariables false
set_option linter.unusedSimpArgs false
set_option maxRecDepth 100000
namespace Go.Proofs.Ytjfpmpbdbpgofaa
open Aw

/-- The digits of a number. -/
def digs (n : Nat) : ByteArray := if h : n = 0 then ⟨#[]⟩ else digs (n / 10) ++ ⟨#[(48 + n % 10).toUInt8]⟩
termination_by n
decreasing_by omega
theorem digs_zero : digs 0 = ⟨#[]⟩ := by unfold digs; simp
theorem digs_pos {n : Nat} (h : n ≠ 0) : digs n = digs (n / 10) ++ ⟨#[(48 + n % 10).toUInt8]⟩ := by
  rw [digs]; simp [h]
theorem digs_size : ∀ n : Nat, (digs n).size ≤ n := by
  intro n
  induction n using Nat.strongRecOn with
  | _ n ih =>
    by_cases h : n = 0
    · subst h; rw [digs_zero]; exact Nat.le_refl _
    · rw [digs_pos h, ByteArray.size_append]
      have := ih (n / 10) (by omega)
      have : (⟨#[(48 + n % 10).toUInt8]⟩ : ByteArray).size = 1 := rfl
      omega
def mtext (k : Int) : ByteArray := ⟨#[109]⟩ ++ digs k.toNat
theorem app_assoc (a b c : ByteArray) : a ++ b ++ c = a ++ (b ++ c) := by
  apply ByteArray.ext
  simp [Array.append_assoc]
theorem lo_markText : ∀ (n : Nat) (acc : ByteArray) (ks : List KI), acc.size + n ≤ 5000000000000000000 →
    rE fns fa_laws_markText 0 (.code lo_laws_markText_0 :: .inBlock 0 :: ks) [(3, str acc), (0, i64 n)] [] =
      rE fns fa_laws_markText 0 ks [(3, str (digs n ++ acc))] [] := by
  intro n
  induction n using Nat.strongRecOn with
  | _ n ih =>
    intro acc ks hn
    rw [l_laws_markText_0]
    by_cases h : n = 0
    · subst h
      have : digs 0 ++ acc = acc := by rw [digs_zero]; apply ByteArray.ext; simp
      rw [this]
      simp [lb_laws_markText_0]
    · have hp : 0 < n := by omega
      rw [digs_pos h]
      have hsz : (⟨#[(48 + n % 10).toUInt8]⟩ ++ acc : ByteArray).size = 1 + acc.size := by rw [ByteArray.size_append]; rfl
      have ih := ih (n / 10) (by omega) (⟨#[(48 + n % 10).toUInt8]⟩ ++ acc) ks (by rw [hsz]; omega)
      have t1 : ((n : Int)).tmod 10 = ((n % 10 : Nat) : Int) := rfl
      have t2 : (n : Int) / 10 = ((n / 10 : Nat) : Int) := by omega
      have w1 : IntKind.i64.wrap (48 + ((n % 10 : Nat) : Int)) = 48 + ((n % 10 : Nat) : Int) := wrap_i64 (by omega)
      have w2 : IntKind.u8.wrap (48 + ((n % 10 : Nat) : Int)) = 48 + ((n % 10 : Nat) : Int) := wrap_u8 (by omega)
      have w3 : IntKind.i64.wrap ((n / 10 : Nat) : Int) = ((n / 10 : Nat) : Int) := wrap_i64 (by omega)
      have w4 : numsOf [PV.val (Value.int IntKind.u8 (48 + ((n % 10 : Nat) : Int)))] = some [48 + ((n % 10 : Nat) : Int)] := by simp [numsOf]
      have w5 : strOfNums [48 + ((n % 10 : Nat) : Int)] = ⟨#[(48 + n % 10).toUInt8]⟩ := by
        have t' : (48 + (n : Int) % 10).toNat = 48 + n % 10 := by omega
        simp [strOfNums, t']
      have w6 : (⟨#[(48 + n % 10).toUInt8]⟩ : ByteArray).size + acc.size ≤ 9223372036854775807 := by
        have : (⟨#[(48 + n % 10).toUInt8]⟩ : ByteArray).size = 1 := rfl
        omega
      rw [app_assoc, ← ih]
      generalize hd : (⟨#[(48 + n % 10).toUInt8]⟩ : ByteArray) = dd at *
      generalize hm : n % 10 = r at *
      generalize hm2 : n / 10 = q at *
      simp [lb_laws_markText_0, hp, t1, t2, w1, w2, w3, w4, w5, w6]
      done
theorem ev_laws_markText (k : Int) (hk : 0 < k ∧ k ≤ 4611686018427387904) : ev fns i_laws_markText [i64 k] [] = some (str (mtext k), []) := by
  refine go_laws_markText (by simp) ?_
  obtain ⟨n, rfl⟩ := Int.eq_ofNat_of_zero_le (show 0 ≤ k by omega)
  have hn : 0 < n := by omega
  have lo := fun ks => lo_markText n ⟨#[]⟩ ks (by have : (⟨#[]⟩ : ByteArray).size = 0 := rfl; omega)
  have he : digs n ++ (⟨#[]⟩ : ByteArray) = digs n := by apply ByteArray.ext; simp
  simp [he] at lo
  have hz : (⟨#[109]⟩ : ByteArray).size + (digs n).size ≤ 9223372036854775807 := by
    have : (⟨#[109]⟩ : ByteArray).size = 1 := rfl
    have := digs_size n
    omega
  simp [ac_laws_markText, hn, show n ≠ 0 by omega, lo, mtext, hz]
  done
end Go.Proofs.Ytjfpmpbdbpgofaa
