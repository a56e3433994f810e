/- strings.Builder in the rewriters' runs: what WriteString does to the states that come up there. -/
import Derived.Test.YtjfpmpbdbpgofaaSmall
set_option linter.unusedVariables false
set_option linter.unusedSimpArgs false
set_option maxRecDepth 100000
namespace Go.Proofs.Ytjfpmpbdbpgofaa
open Aw
theorem fold_u8 : (fun b : UInt8 => PV.val (Value.int .u8 (b.toNat : Int))) = Enc.pv := rfl
@[simp] theorem all_tt (s : ByteArray) : s.data.all (fun _ => true) 0 s.size = true := by
  have : s.data.all (fun _ => true) = true := by rw [Array.all_eq_true]; intros; rfl
  exact this
/-- The builder's row when nothing is written yet; a: its own address, or nil. -/
@[simp] abbrev RB0 (st : List Int) (a : PV) : List AObj := [.row 1 (st.map Enc.pv) 0, .row 2 [.agg [a, .val (.slice none 0 0)]] 307000000]
@[simp] abbrev RB1 (st : List Int) (d : List PV) (b : ByteArray) (v : Nat) : List AObj := [.row 1 (st.map Enc.pv) 0, .row 2 [.agg [.ptr 1 307000000 0 0, .own 3 v 0 b.size]] 307000000, .row 2 d 0, .row 1 (b.data.toList.map Enc.pv) v]
@[simp] abbrev RT (m : Int) (o : ByteArray) : AObj := .row 2 [.agg [i64 m, str o]] 0
theorem copyR0 (st : List Int) (m : Int) (o : ByteArray) : ev fns i_P_strings_Builder_copyCheck [.ptr 1 307000000 0 0] (RB0 st (.val (.pointer none)) ++ [RT m o]) = some (.tup [], RB0 st (.ptr 1 307000000 0 0) ++ [RT m o]) := by
  refine go_P_strings_Builder_copyCheck (by simp) ?_
  simp [ac_P_strings_Builder_copyCheck]
theorem copyR1 (st : List Int) (m : Int) (o : ByteArray) : ev fns i_P_strings_Builder_copyCheck [.ptr 1 307000000 0 0] (RB0 st (.ptr 1 307000000 0 0) ++ [RT m o]) = some (.tup [], RB0 st (.ptr 1 307000000 0 0) ++ [RT m o]) := by
  refine go_P_strings_Builder_copyCheck (by simp) ?_
  simp [ac_P_strings_Builder_copyCheck]
theorem copyR2 (st : List Int) (b : ByteArray) (m : Int) (o : ByteArray) : ev fns i_P_strings_Builder_copyCheck [.ptr 1 307000000 0 0] (RB1 st [] b 6000000 ++ [RT m o]) = some (.tup [], RB1 st [] b 6000000 ++ [RT m o]) := by
  refine go_P_strings_Builder_copyCheck (by simp) ?_
  simp [ac_P_strings_Builder_copyCheck]
theorem data_cons {s : ByteArray} (h : 0 < s.size) : ∃ x xs, s.data.toList = x :: xs ∧ xs.length + 1 = s.size := by
  have hl : s.data.toList.length = s.size := by simp
  cases hh : s.data.toList with
  | nil => rw [hh] at hl; simp at hl; omega
  | cons x xs => rw [hh] at hl; exact ⟨x, xs, rfl, by simpa using hl⟩
/-- The first bytes. -/
theorem writeR0 (k : Bool) (st : List Int) (m : Int) (o : ByteArray) (h : 0 < o.size) (hz : o.size ≤ 140737488355328) :
    ev fns i_P_strings_Builder_WriteString [.ptr 1 307000000 0 0, str o] (RB0 st (if k = true then .ptr 1 307000000 0 0 else .val (.pointer none)) ++ [RT m o]) = some (.tup [i64 o.size, .val .nilIface], RB1 st [.agg [i64 m, str o]] o 6000000) := by
  refine go_P_strings_Builder_WriteString (by simp) ?_
  have h0 := copyR0 st m o
  have h1 := copyR1 st m o
  obtain ⟨x, xs, hx, hl⟩ := data_cons h
  simp at h0 h1
  cases k
  · simp [ac_P_strings_Builder_WriteString, h0, hx, fold_u8, ← hl, show xs.length + 1 ≤ 140737488355328 by omega]
    done
  · simp [ac_P_strings_Builder_WriteString, h1, hx, fold_u8, ← hl, show xs.length + 1 ≤ 140737488355328 by omega]
    done
/-- Nothing is written. -/
theorem writeRe (k : Bool) (st : List Int) (m : Int) (o : ByteArray) (h : o = ⟨#[]⟩) :
    ev fns i_P_strings_Builder_WriteString [.ptr 1 307000000 0 0, str o] (RB0 st (if k = true then .ptr 1 307000000 0 0 else .val (.pointer none)) ++ [RT m o]) = some (.tup [i64 o.size, .val .nilIface], RB0 st (.ptr 1 307000000 0 0) ++ [RT m o]) := by
  refine go_P_strings_Builder_WriteString (by simp) ?_
  have h0 := copyR0 st m o
  have h1 := copyR1 st m o
  subst h
  simp at h0 h1
  cases k
  · simp [ac_P_strings_Builder_WriteString, h0, fold_u8]
    done
  · simp [ac_P_strings_Builder_WriteString, h1, fold_u8]
    done
/-- More bytes. -/
theorem writeR1 (st : List Int) (b : ByteArray) (m : Int) (o : ByteArray) (hz : b.size + o.size ≤ 140737488355328) :
    ev fns i_P_strings_Builder_WriteString [.ptr 1 307000000 0 0, str o] (RB1 st [] b 6000000 ++ [RT m o]) = some (.tup [i64 o.size, .val .nilIface], RB1 st [] (b ++ o) 6000001 ++ [RT m o]) := by
  refine go_P_strings_Builder_WriteString (by simp) ?_
  have hc := copyR2 st b m o
  simp at hc
  simp [ac_P_strings_Builder_WriteString, hc, fold_u8, hz, ByteArray.data_append, ByteArray.size_append]
  done
end Go.Proofs.Ytjfpmpbdbpgofaa
