/- strings.Builder: what its methods do; the words of a line. -/
import Derived.Test.YtipmgemnjcjobaaDoorDecText
set_option linter.unusedVariables false
set_option linter.unusedSimpArgs false
set_option maxRecDepth 100000
namespace Go.Proofs.YtipmgemnjcjobaaDoor
open Aw
theorem fold_u8 : (fun b : UInt8 => PV.val (Value.int .u8 (b.toNat : Int))) = Enc.pv := rfl
@[simp] theorem all_tt (s : ByteArray) : s.data.all (fun _ => true) 0 s.size = true := by
  have : s.data.all (fun _ => true) = true := by rw [Array.all_eq_true]; intros; rfl
  exact this
theorem numsOf_list : ∀ l : List UInt8, numsOf (l.map Enc.pv) = some (l.map fun b => (b.toNat : Int))
  | [] => rfl
  | b :: l => by
    show (numsOf (l.map Enc.pv)).map _ = _
    rw [numsOf_list l]; rfl
theorem numsOf_bytes (s : ByteArray) : numsOf (s.data.toList.map Enc.pv) = some (s.data.toList.map fun b => (b.toNat : Int)) := numsOf_list _
theorem bytes_ok (s : ByteArray) : ((s.data.toList.map fun b => (b.toNat : Int)).all fun x => decide (0 ≤ x) && decide (x < 256)) = true := by
  rw [List.all_eq_true]
  intro x hx
  obtain ⟨b, _, rfl⟩ := List.mem_map.1 hx
  have := b.toNat_lt
  simp; omega
theorem strOf_bytes (s : ByteArray) : strOfNums (s.data.toList.map fun b => (b.toNat : Int)) = s := by
  unfold strOfNums
  rw [List.map_map]
  have : ((fun n : Int => UInt8.ofNat n.toNat) ∘ fun b : UInt8 => (b.toNat : Int)) = id := by funext b; simp
  rw [this]; simp
/-- A builder of which nothing was asked yet. -/
@[simp] abbrev B0 : List AObj := [.row 2 [.agg [.val (.pointer none), .val (.slice none 0 0)]] 122000000]
/-- A builder that holds something. -/
@[simp] abbrev B1 (s : ByteArray) (v : Nat) : List AObj := [.row 2 [.agg [.ptr 0 122000000 0 0, .own 1 v 0 s.size]] 122000000, .row 1 (s.data.toList.map Enc.pv) v]
theorem ev_copy0 : ev fns i_P_strings_Builder_copyCheck [.ptr 0 122000000 0 0] B0 = some (.tup [], [.row 2 [.agg [.ptr 0 122000000 0 0, .val (.slice none 0 0)]] 122000000]) := by
  refine go_P_strings_Builder_copyCheck (by simp) ?_
  simp [ac_P_strings_Builder_copyCheck]
theorem ev_copy1 (s : ByteArray) (v : Nat) : ev fns i_P_strings_Builder_copyCheck [.ptr 0 122000000 0 0] (B1 s v) = some (.tup [], B1 s v) := by
  refine go_P_strings_Builder_copyCheck (by simp) ?_
  simp [ac_P_strings_Builder_copyCheck]
theorem ev_write0 (s : ByteArray) (h : 0 < s.size) (hz : s.size ≤ 140737488355328) : ev fns i_P_strings_Builder_WriteString [.ptr 0 122000000 0 0, str s] B0 = some (.tup [i64 s.size, .val .nilIface], B1 s 6000000) := by
  refine go_P_strings_Builder_WriteString (by simp) ?_
  have hc := ev_copy0
  have hl : s.data.toList.length = s.size := by simp
  obtain ⟨x, xs, hx⟩ : ∃ x xs, s.data.toList = x :: xs := by
    cases hh : s.data.toList with
    | nil => rw [hh] at hl; simp at hl; omega
    | cons x xs => exact ⟨x, xs, rfl⟩
  rw [hx] at hl
  simp at hl
  simp at hc
  simp [ac_P_strings_Builder_WriteString, hc, hx, fold_u8, ← hl, show xs.length + 1 ≤ 140737488355328 by omega]
  done
theorem ev_write1 (b s : ByteArray) (hz : b.size + s.size ≤ 140737488355328) : ev fns i_P_strings_Builder_WriteString [.ptr 0 122000000 0 0, str s] (B1 b 6000000) = some (.tup [i64 s.size, .val .nilIface], B1 (b ++ s) 6000001) := by
  refine go_P_strings_Builder_WriteString (by simp) ?_
  have hc := ev_copy1 b 6000000
  simp at hc
  simp [ac_P_strings_Builder_WriteString, hc, fold_u8, hz, ByteArray.data_append, ByteArray.size_append]
  done
theorem ev_string (b : ByteArray) (h : 0 < b.size) (hz : b.size ≤ 140737488355328) : ev fns i_P_strings_Builder_String [.ptr 0 122000000 0 0] (B1 b 6000000) = some (str b, [.row 2 [.agg [.ptr 0 122000000 0 0, .own 1 6000000 0 b.size]] 122000000, .row 1 [] 6000001]) := by
  refine go_P_strings_Builder_String (by simp) ?_
  have h1 := numsOf_bytes b
  have h2 := bytes_ok b
  have h3 := strOf_bytes b
  simp [ac_P_strings_Builder_String, h, h1, h2, h3, show (b.size : Int) ≤ 4611686018427387904 by omega]
  done
/-- A word and its numbers, each behind a blank. -/
def wordsL (w : ByteArray) (l : List Int) : ByteArray := l.foldl (fun b n => b ++ (⟨#[32]⟩ ++ decT n.toNat)) w
def wordsT (w : ByteArray) (l : List Int) : ByteArray := wordsL w l ++ ⟨#[10]⟩
structure WI (w : ByteArray) (k : Nat) (b : ByteArray) : Prop where
  lo : 0 < b.size
  hi : b.size ≤ w.size + 3 * k
theorem sp_size (n : Nat) : ((⟨#[32]⟩ : ByteArray) ++ decT n).size ≤ 3 := by
  have := decT_size n
  rw [ByteArray.size_append]
  have q1 : (⟨#[32]⟩ : ByteArray).size = 1 := rfl
  omega
theorem lo_words (ex : Bool) (w : ByteArray) (l : List Int) (h0 : 0 < w.size) (hw : w.size ≤ 1000) (hl : l.length ≤ 2000000) (hn : ∀ x ∈ l, 0 ≤ x ∧ x < 100) (ks : List KI) :
    rE fns fa_impl_words 0 (.code lo_impl_words_0 :: .inBlock 0 :: ks) [(13, i64 0), (12, i64 l.length), (11, (.list 1 (l.map Enc.pv) ex)), (5, .ptr 0 122000000 0 0)] (B1 w 6000000) = rE fns fa_impl_words 0 ks [(5, .ptr 0 122000000 0 0)] (B1 (wordsL w l) 6000000) ∧ WI w l.length (wordsL w l) := by
  have lo := loop_fold (F := fun k b => rE fns fa_impl_words 0 (.code lo_impl_words_0 :: .inBlock 0 :: ks) [(13, i64 (k : Nat)), (12, i64 l.length), (11, (.list 1 (l.map Enc.pv) ex)), (5, .ptr 0 122000000 0 0)] (B1 b 6000000)) (ls := l) (f := fun b n => b ++ (⟨#[32]⟩ ++ decT n.toNat)) (fun k b => WI w k b)
    (fun k b hk hI => by
      obtain ⟨hx0, hx1⟩ := hn _ (List.getElem_mem hk)
      obtain ⟨n, hx, hn1⟩ : ∃ n : Nat, l[k] = n ∧ n < 100 := ⟨l[k].toNat, by omega, by omega⟩
      have hd := ev_decimal n hn1
      have hs := sp_size n
      have q1 : (⟨#[32]⟩ : ByteArray).size = 1 := rfl
      have i1 := hI.lo
      have i2 := hI.hi
      have hwr := wrap_i64 (n := k + 1) (by omega)
      have hs0 := decT_size n
      have hw1 := ev_write1 b (⟨#[32]⟩ ++ decT n) (by omega)
      rw [hx]
      obtain ⟨d, hdd⟩ : ∃ d, d = b ++ (⟨#[32]⟩ ++ decT n) := ⟨_, rfl⟩
      obtain ⟨z, hz⟩ : ∃ z, z = (⟨#[32]⟩ ++ decT n : ByteArray).size := ⟨_, rfl⟩
      rw [← hdd, ← hz] at hw1
      refine ⟨?_, ⟨by rw [ByteArray.size_append]; omega, by rw [ByteArray.size_append]; simp only [Int.toNat_natCast]; omega⟩⟩
      rw [l_impl_words_0]
      rw [show b ++ (⟨#[32]⟩ ++ decT ((n : Int)).toNat) = d by rw [hdd]; rfl]
      simp at hd hw1
      simp [lb_impl_words_0, hk, hx, hwr, hd, hw1, nvRow, show (⟨#[32]⟩ : ByteArray).size + (decT n).size ≤ 9223372036854775807 by omega]
      done)
    (s := w) ⟨h0, by omega⟩
  refine ⟨Eq.trans ?_ (lo.1.trans ?_), lo.2⟩
  · rfl
  · rw [l_impl_words_0]
    simp [lb_impl_words_0, wordsL]
    done
theorem ev_impl_words (ex : Bool) (w : ByteArray) (l : List Int) (h0 : 0 < w.size) (hw : w.size ≤ 1000) (hl : l.length ≤ 2000000) (hn : ∀ x ∈ l, 0 ≤ x ∧ x < 100) :
    ev fns i_impl_words [str w, (.list 1 (l.map Enc.pv) ex)] [] = some (str (wordsT w l), []) := by
  refine go_impl_words (by simp) ?_
  have hw0 := ev_write0 w h0 (by omega)
  have lo := fun ks => (lo_words ex w l h0 hw hl hn ks).1
  have hi := (lo_words ex w l h0 hw hl hn []).2
  have i1 := hi.lo
  have i2 := hi.hi
  have hs := ev_string (wordsL w l) i1 (by omega)
  have q1 : (⟨#[10]⟩ : ByteArray).size = 1 := rfl
  simp at hw0 lo hs
  simp [ac_impl_words, hw0, lo, hs, wordsT, nvRow, show (wordsL w l).size + (⟨#[10]⟩ : ByteArray).size ≤ 9223372036854775807 by omega]
  done
end Go.Proofs.YtipmgemnjcjobaaDoor
