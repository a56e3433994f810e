/- Typed data, and what the laws' own functions say of them; printed by a program (dat.py). -/
import Derived.Test.YtoliadfdklfmfaaSiz
set_option linter.unusedVariables false
set_option linter.unusedSimpArgs false
set_option maxRecDepth 100000
namespace Go.Proofs.Ytoliadfdklfmfaa
open Aw

theorem ev_laws_szBoolS (a : List Bool) (n : Int) (h0 : 0 ≤ n) (h1 : n ≤ 1048576) (hf : Siz.fits a) : ev fns i_laws_szBoolS [(lst 1 a), i64 n] [] = some (i64 (szR (Siz.size a) n), []) := by
  have hl : a.length ≤ 9223372036854775807 := Siz.fits_len hf
  have w := wrap_i64 (n := n - (a.length : Int)) (by omega)
  refine go_laws_szBoolS (by simp) ?_
  by_cases c : (a.length : Int) ≤ n
  rotate_left
  · rw [szR_no (by have := Siz.len_le a; omega)]; simp [ac_laws_szBoolS, w, show n - (a.length : Int) < 0 by omega]
  rw [szR_ok (by rw [Siz.size_flat_bool]; omega)]; simp [ac_laws_szBoolS, w, show ¬ (n - (a.length : Int) < 0) by omega, Siz.size_flat_bool]
theorem lo_laws_eqBoolS (ls rs : List Bool) (hl : Siz.size ls ≤ 1048576) (hr : ls.length = rs.length) (ks : List KI) : ∀ suf suf' pre pre', ls = pre ++ suf → rs = pre' ++ suf' → pre'.length = pre.length →
    rE fns fa_laws_eqBoolS 0 (.code lo_laws_eqBoolS_0 :: .inBlock 0 :: ks) [(5, i64 pre.length), (1, lst 1 rs), (0, lst 1 ls)] [] =
      if suf = suf' then rE fns fa_laws_eqBoolS 0 ks [] [] else some (bol false, []) := by
  have hl1 := Siz.len_le ls
  intro suf
  induction suf with
  | nil =>
    intro suf' pre pre' h h' he
    have hs : suf' = [] := by have := congrArg List.length h; have := congrArg List.length h'; simp at *; exact List.eq_nil_of_length_eq_zero (by omega)
    simp at h; subst h; subst hs
    rw [l_laws_eqBoolS_0]
    simp [lb_laws_eqBoolS_0]
  | cons x suf ih =>
    intro suf' pre pre' h h' he
    cases suf' with
    | nil => have := congrArg List.length h; have := congrArg List.length h'; simp at *; omega
    | cons y suf' =>
    rw [l_laws_eqBoolS_0]
    have mm := mid h
    have m1 := mm.1
    have mm' := mid h'
    rw [he] at mm'
    have hw := wrap_i64 (n := pre.length + 1) (by omega)
    have ih := ih suf' (pre ++ [x]) (pre' ++ [y]) (by simp [h]) (by simp [h']) (by simp [he])
    simp at ih
    by_cases c : x = y
    · subst c; simp [lb_laws_eqBoolS_0, mm.1, mm.2.2, mm'.1, mm'.2.2, hw, ih]
    · simp [lb_laws_eqBoolS_0, mm.1, mm.2.2, mm'.1, mm'.2.2, hw, ih, c]
@[simp] theorem ev_laws_eqBoolS (a b : List Bool) (h : Siz.size a ≤ 1048576) : ev fns i_laws_eqBoolS [lst 1 a, lst 1 b] [] = some (bol (decide (a = b)), []) := by
  have hl := Siz.len_le a
  refine go_laws_eqBoolS (by simp) ?_
  by_cases hr : a.length = b.length
  · have lo := fun ks => lo_laws_eqBoolS a b h hr ks a b [] [] rfl rfl rfl
    simp at lo
    by_cases c : a = b
    · subst c; simp [ac_laws_eqBoolS, hr, lo]
    · simp [ac_laws_eqBoolS, hr, lo, c]
  · have c : a ≠ b := fun e => hr (by rw [e])
    simp [ac_laws_eqBoolS, c, show ¬ ((a.length : Int) = b.length) by omega, hr]

structure GPush where
  to : Int
  put : Int
  deriving DecidableEq

@[simp] abbrev GPush.v (a : GPush) : PV := .agg [.val (.int .i64 a.to), .val (.int .i64 a.put)]
instance : Enc GPush := ⟨GPush.v, 2, fun _ => rfl, fun _ => rfl⟩
@[simp] theorem pv_Push (a : GPush) : Enc.pv a = a.v := rfl
@[simp] theorem sz_Push : Enc.sz GPush = 2 := rfl
theorem GPush.eq_iff (a b : GPush) : a = b ↔ a.to = b.to ∧ a.put = b.put := by cases a; cases b; simp
instance : Siz GPush := ⟨fun a => 0, fun a => True⟩
theorem size_Push (a : GPush) : Siz.size a = 0 := rfl
theorem Siz.size_flat_Push (xs : List GPush) : Siz.size xs = xs.length := by rw [Siz.size_list, Siz.sum_zero (fun _ => rfl)]; rfl
theorem fits_Push (a : GPush) : Siz.fits a = (True) := rfl
@[simp] theorem ev_laws_toPush (a : GPush) (h : Siz.size a ≤ 1048576) : ev fns i_laws_toPush [a.v] [] = some (a.v, []) := by
  rw [size_Push] at h
  refine go_laws_toPush (by simp) ?_
  simp [ac_laws_toPush]
@[simp] theorem ev_laws_eqPush (a b : GPush) (h : Siz.size a ≤ 1048576) : ev fns i_laws_eqPush [a.v, b.v] [] = some (bol (decide (a = b)), []) := by
  rw [size_Push] at h
  refine go_laws_eqPush (by simp) ?_
  simp [ac_laws_eqPush]
  cases a; cases b; simp; try grind
theorem ev_laws_szPushS (a : List GPush) (n : Int) (h0 : 0 ≤ n) (h1 : n ≤ 1048576) (hf : Siz.fits a) : ev fns i_laws_szPushS [(lst 2 a), i64 n] [] = some (i64 (szR (Siz.size a) n), []) := by
  have hl : a.length ≤ 9223372036854775807 := Siz.fits_len hf
  have w := wrap_i64 (n := n - (a.length : Int)) (by omega)
  refine go_laws_szPushS (by simp) ?_
  by_cases c : (a.length : Int) ≤ n
  rotate_left
  · rw [szR_no (by have := Siz.len_le a; omega)]; simp [ac_laws_szPushS, w, show n - (a.length : Int) < 0 by omega]
  rw [szR_ok (by rw [Siz.size_flat_Push]; omega)]; simp [ac_laws_szPushS, w, show ¬ (n - (a.length : Int) < 0) by omega, Siz.size_flat_Push]
theorem lo_laws_eqPushS (ls rs : List GPush) (hl : Siz.size ls ≤ 1048576) (hr : ls.length = rs.length) (ks : List KI) : ∀ suf suf' pre pre', ls = pre ++ suf → rs = pre' ++ suf' → pre'.length = pre.length →
    rE fns fa_laws_eqPushS 0 (.code lo_laws_eqPushS_0 :: .inBlock 0 :: ks) [(5, i64 pre.length), (1, lst 2 rs), (0, lst 2 ls)] [] =
      if suf = suf' then rE fns fa_laws_eqPushS 0 ks [] [] else some (bol false, []) := by
  have hl1 := Siz.len_le ls
  intro suf
  induction suf with
  | nil =>
    intro suf' pre pre' h h' he
    have hs : suf' = [] := by have := congrArg List.length h; have := congrArg List.length h'; simp at *; exact List.eq_nil_of_length_eq_zero (by omega)
    simp at h; subst h; subst hs
    rw [l_laws_eqPushS_0]
    simp [lb_laws_eqPushS_0]
  | cons x suf ih =>
    intro suf' pre pre' h h' he
    cases suf' with
    | nil => have := congrArg List.length h; have := congrArg List.length h'; simp at *; omega
    | cons y suf' =>
    rw [l_laws_eqPushS_0]
    have mm := mid h
    have m1 := mm.1
    have mm' := mid h'
    rw [he] at mm'
    have hw := wrap_i64 (n := pre.length + 1) (by omega)
    have ce := fun y => ev_laws_eqPush x y (by have := Siz.mem_le (x := x) (xs := ls) (by simp [h]); omega)
    have ih := ih suf' (pre ++ [x]) (pre' ++ [y]) (by simp [h]) (by simp [h']) (by simp [he])
    simp at ih
    by_cases c : x = y
    · subst c; simp [lb_laws_eqPushS_0, mm.1, mm.2.2, mm'.1, mm'.2.2, hw, ce, ih]
    · simp [lb_laws_eqPushS_0, mm.1, mm.2.2, mm'.1, mm'.2.2, hw, ce, ih, c]
@[simp] theorem ev_laws_eqPushS (a b : List GPush) (h : Siz.size a ≤ 1048576) : ev fns i_laws_eqPushS [lst 2 a, lst 2 b] [] = some (bol (decide (a = b)), []) := by
  have hl := Siz.len_le a
  refine go_laws_eqPushS (by simp) ?_
  by_cases hr : a.length = b.length
  · have lo := fun ks => lo_laws_eqPushS a b h hr ks a b [] [] rfl rfl rfl
    simp at lo
    by_cases c : a = b
    · subst c; simp [ac_laws_eqPushS, hr, lo]
    · simp [ac_laws_eqPushS, hr, lo, c]
  · have c : a ≠ b := fun e => hr (by rw [e])
    simp [ac_laws_eqPushS, c, show ¬ ((a.length : Int) = b.length) by omega, hr]

@[simp] theorem ty_PushS : (PV.ty (.lst 2 .any) ∘ (Enc.pv : List GPush → PV)) = Enc.pv := by funext x; simp
theorem lo_laws_szPushSS (ls : List (List GPush)) (hf : Siz.fits ls) (ks : List KI) : ∀ suf pre (m : Int), ls = pre ++ suf → 0 ≤ m → m ≤ 1048576 →
    rE fns fa_laws_szPushSS 0 (.code lo_laws_szPushSS_0 :: .inBlock 0 :: ks) [(5, i64 pre.length), (1, i64 m), (0, lst 1 ls)] [] =
      if (Siz.sum suf : Int) ≤ m then rE fns fa_laws_szPushSS 0 ks [(1, i64 (m - Siz.sum suf))] [] else some (i64 (-1), []) := by
  have hl : ls.length ≤ 9223372036854775807 := Siz.fits_len hf
  intro suf
  induction suf with
  | nil =>
    intro pre m h h0 h1
    simp at h; subst h
    rw [l_laws_szPushSS_0]
    simp [lb_laws_szPushSS_0, Siz.sum, h0]
  | cons x suf ih =>
    intro pre m h h0 h1
    rw [l_laws_szPushSS_0]
    have mm := mid h
    have m1 := mm.1
    have hw := wrap_i64 (n := pre.length + 1) (by omega)
    have hx := Siz.fits_mem hf (x := x) (by simp [h])
    have ce := ev_laws_szPushS x m h0 h1 hx
    by_cases c : (Siz.size x : Int) ≤ m
    · have ih := ih (pre ++ [x]) (m - Siz.size x) (by simp [h]) (by omega) (by omega)
      simp at ih
      rw [szR_ok c] at ce
      simp [lb_laws_szPushSS_0, mm.1, mm.2.2, hw, ce, show ¬ (m - (Siz.size x : Int) < 0) by omega, ih, Siz.sum]
      have q1 : ((Siz.sum suf : Int) ≤ m - Siz.size x) ↔ ((Siz.size x : Int) + Siz.sum suf ≤ m) := by omega
      have q2 : m - (Siz.size x : Int) - Siz.sum suf = m - ((Siz.size x : Int) + Siz.sum suf) := by omega
      by_cases d : (Siz.size x : Int) + Siz.sum suf ≤ m
      · simp [q1, q2, d]
      · simp [q1, d]
    · rw [szR_no (by omega)] at ce
      simp [lb_laws_szPushSS_0, mm.1, mm.2.2, hw, ce, Siz.sum, show ¬ ((Siz.size x : Int) + Siz.sum suf ≤ m) by omega]

theorem ev_laws_szPushSS (a : List (List GPush)) (n : Int) (h0 : 0 ≤ n) (h1 : n ≤ 1048576) (hf : Siz.fits a) : ev fns i_laws_szPushSS [(lst 1 a), i64 n] [] = some (i64 (szR (Siz.size a) n), []) := by
  have hl : a.length ≤ 9223372036854775807 := Siz.fits_len hf
  have w := wrap_i64 (n := n - (a.length : Int)) (by omega)
  refine go_laws_szPushSS (by simp) ?_
  by_cases c : (a.length : Int) ≤ n
  rotate_left
  · rw [szR_no (by have := Siz.len_le a; omega)]; simp [ac_laws_szPushSS, w, show n - (a.length : Int) < 0 by omega]
  have lo := fun ks => lo_laws_szPushSS a hf ks a [] (n - a.length) rfl (by omega) (by omega)
  simp only [List.length_nil, Int.natCast_zero, Int.cast_ofNat_Int] at lo
  simp [ac_laws_szPushSS, w, show ¬ (n - (a.length : Int) < 0) by omega, lo]
  by_cases d : (Siz.sum a : Int) ≤ n - a.length
  · rw [szR_ok (by rw [Siz.size_list]; omega)]; simp [d, Siz.size_list]; omega
  · rw [szR_no (by rw [Siz.size_list]; omega)]; simp [d]
theorem lo_laws_eqPushSS (ls rs : List (List GPush)) (hl : Siz.size ls ≤ 1048576) (hr : ls.length = rs.length) (ks : List KI) : ∀ suf suf' pre pre', ls = pre ++ suf → rs = pre' ++ suf' → pre'.length = pre.length →
    rE fns fa_laws_eqPushSS 0 (.code lo_laws_eqPushSS_0 :: .inBlock 0 :: ks) [(5, i64 pre.length), (1, lst 1 rs), (0, lst 1 ls)] [] =
      if suf = suf' then rE fns fa_laws_eqPushSS 0 ks [] [] else some (bol false, []) := by
  have hl1 := Siz.len_le ls
  intro suf
  induction suf with
  | nil =>
    intro suf' pre pre' h h' he
    have hs : suf' = [] := by have := congrArg List.length h; have := congrArg List.length h'; simp at *; exact List.eq_nil_of_length_eq_zero (by omega)
    simp at h; subst h; subst hs
    rw [l_laws_eqPushSS_0]
    simp [lb_laws_eqPushSS_0]
  | cons x suf ih =>
    intro suf' pre pre' h h' he
    cases suf' with
    | nil => have := congrArg List.length h; have := congrArg List.length h'; simp at *; omega
    | cons y suf' =>
    rw [l_laws_eqPushSS_0]
    have mm := mid h
    have m1 := mm.1
    have mm' := mid h'
    rw [he] at mm'
    have hw := wrap_i64 (n := pre.length + 1) (by omega)
    have ce := fun y => ev_laws_eqPushS x y (by have := Siz.mem_le (x := x) (xs := ls) (by simp [h]); omega)
    have ih := ih suf' (pre ++ [x]) (pre' ++ [y]) (by simp [h]) (by simp [h']) (by simp [he])
    simp at ih
    by_cases c : x = y
    · subst c; simp [lb_laws_eqPushSS_0, mm.1, mm.2.2, mm'.1, mm'.2.2, hw, ce, ih]
    · simp [lb_laws_eqPushSS_0, mm.1, mm.2.2, mm'.1, mm'.2.2, hw, ce, ih, c]
@[simp] theorem ev_laws_eqPushSS (a b : List (List GPush)) (h : Siz.size a ≤ 1048576) : ev fns i_laws_eqPushSS [lst 1 a, lst 1 b] [] = some (bol (decide (a = b)), []) := by
  have hl := Siz.len_le a
  refine go_laws_eqPushSS (by simp) ?_
  by_cases hr : a.length = b.length
  · have lo := fun ks => lo_laws_eqPushSS a b h hr ks a b [] [] rfl rfl rfl
    simp at lo
    by_cases c : a = b
    · subst c; simp [ac_laws_eqPushSS, hr, lo]
    · simp [ac_laws_eqPushSS, hr, lo, c]
  · have c : a ≠ b := fun e => hr (by rw [e])
    simp [ac_laws_eqPushSS, c, show ¬ ((a.length : Int) = b.length) by omega, hr]

theorem ev_laws_szInt64S (a : List Int) (n : Int) (h0 : 0 ≤ n) (h1 : n ≤ 1048576) (hf : Siz.fits a) : ev fns i_laws_szInt64S [(lst 1 a), i64 n] [] = some (i64 (szR (Siz.size a) n), []) := by
  have hl : a.length ≤ 9223372036854775807 := Siz.fits_len hf
  have w := wrap_i64 (n := n - (a.length : Int)) (by omega)
  refine go_laws_szInt64S (by simp) ?_
  by_cases c : (a.length : Int) ≤ n
  rotate_left
  · rw [szR_no (by have := Siz.len_le a; omega)]; simp [ac_laws_szInt64S, w, show n - (a.length : Int) < 0 by omega]
  rw [szR_ok (by rw [Siz.size_flat_int]; omega)]; simp [ac_laws_szInt64S, w, show ¬ (n - (a.length : Int) < 0) by omega, Siz.size_flat_int]
theorem lo_laws_eqInt64S (ls rs : List Int) (hl : Siz.size ls ≤ 1048576) (hr : ls.length = rs.length) (ks : List KI) : ∀ suf suf' pre pre', ls = pre ++ suf → rs = pre' ++ suf' → pre'.length = pre.length →
    rE fns fa_laws_eqInt64S 0 (.code lo_laws_eqInt64S_0 :: .inBlock 0 :: ks) [(5, i64 pre.length), (1, lst 1 rs), (0, lst 1 ls)] [] =
      if suf = suf' then rE fns fa_laws_eqInt64S 0 ks [] [] else some (bol false, []) := by
  have hl1 := Siz.len_le ls
  intro suf
  induction suf with
  | nil =>
    intro suf' pre pre' h h' he
    have hs : suf' = [] := by have := congrArg List.length h; have := congrArg List.length h'; simp at *; exact List.eq_nil_of_length_eq_zero (by omega)
    simp at h; subst h; subst hs
    rw [l_laws_eqInt64S_0]
    simp [lb_laws_eqInt64S_0]
  | cons x suf ih =>
    intro suf' pre pre' h h' he
    cases suf' with
    | nil => have := congrArg List.length h; have := congrArg List.length h'; simp at *; omega
    | cons y suf' =>
    rw [l_laws_eqInt64S_0]
    have mm := mid h
    have m1 := mm.1
    have mm' := mid h'
    rw [he] at mm'
    have hw := wrap_i64 (n := pre.length + 1) (by omega)
    have ih := ih suf' (pre ++ [x]) (pre' ++ [y]) (by simp [h]) (by simp [h']) (by simp [he])
    simp at ih
    by_cases c : x = y
    · subst c; simp [lb_laws_eqInt64S_0, mm.1, mm.2.2, mm'.1, mm'.2.2, hw, ih]
    · simp [lb_laws_eqInt64S_0, mm.1, mm.2.2, mm'.1, mm'.2.2, hw, ih, c]
@[simp] theorem ev_laws_eqInt64S (a b : List Int) (h : Siz.size a ≤ 1048576) : ev fns i_laws_eqInt64S [lst 1 a, lst 1 b] [] = some (bol (decide (a = b)), []) := by
  have hl := Siz.len_le a
  refine go_laws_eqInt64S (by simp) ?_
  by_cases hr : a.length = b.length
  · have lo := fun ks => lo_laws_eqInt64S a b h hr ks a b [] [] rfl rfl rfl
    simp at lo
    by_cases c : a = b
    · subst c; simp [ac_laws_eqInt64S, hr, lo]
    · simp [ac_laws_eqInt64S, hr, lo, c]
  · have c : a ≠ b := fun e => hr (by rw [e])
    simp [ac_laws_eqInt64S, c, show ¬ ((a.length : Int) = b.length) by omega, hr]

@[simp] theorem ty_Int64S : (PV.ty (.lst 1 .any) ∘ (Enc.pv : List Int → PV)) = Enc.pv := by funext x; simp
theorem lo_laws_szInt64SS (ls : List (List Int)) (hf : Siz.fits ls) (ks : List KI) : ∀ suf pre (m : Int), ls = pre ++ suf → 0 ≤ m → m ≤ 1048576 →
    rE fns fa_laws_szInt64SS 0 (.code lo_laws_szInt64SS_0 :: .inBlock 0 :: ks) [(5, i64 pre.length), (1, i64 m), (0, lst 1 ls)] [] =
      if (Siz.sum suf : Int) ≤ m then rE fns fa_laws_szInt64SS 0 ks [(1, i64 (m - Siz.sum suf))] [] else some (i64 (-1), []) := by
  have hl : ls.length ≤ 9223372036854775807 := Siz.fits_len hf
  intro suf
  induction suf with
  | nil =>
    intro pre m h h0 h1
    simp at h; subst h
    rw [l_laws_szInt64SS_0]
    simp [lb_laws_szInt64SS_0, Siz.sum, h0]
  | cons x suf ih =>
    intro pre m h h0 h1
    rw [l_laws_szInt64SS_0]
    have mm := mid h
    have m1 := mm.1
    have hw := wrap_i64 (n := pre.length + 1) (by omega)
    have hx := Siz.fits_mem hf (x := x) (by simp [h])
    have ce := ev_laws_szInt64S x m h0 h1 hx
    by_cases c : (Siz.size x : Int) ≤ m
    · have ih := ih (pre ++ [x]) (m - Siz.size x) (by simp [h]) (by omega) (by omega)
      simp at ih
      rw [szR_ok c] at ce
      simp [lb_laws_szInt64SS_0, mm.1, mm.2.2, hw, ce, show ¬ (m - (Siz.size x : Int) < 0) by omega, ih, Siz.sum]
      have q1 : ((Siz.sum suf : Int) ≤ m - Siz.size x) ↔ ((Siz.size x : Int) + Siz.sum suf ≤ m) := by omega
      have q2 : m - (Siz.size x : Int) - Siz.sum suf = m - ((Siz.size x : Int) + Siz.sum suf) := by omega
      by_cases d : (Siz.size x : Int) + Siz.sum suf ≤ m
      · simp [q1, q2, d]
      · simp [q1, d]
    · rw [szR_no (by omega)] at ce
      simp [lb_laws_szInt64SS_0, mm.1, mm.2.2, hw, ce, Siz.sum, show ¬ ((Siz.size x : Int) + Siz.sum suf ≤ m) by omega]

theorem ev_laws_szInt64SS (a : List (List Int)) (n : Int) (h0 : 0 ≤ n) (h1 : n ≤ 1048576) (hf : Siz.fits a) : ev fns i_laws_szInt64SS [(lst 1 a), i64 n] [] = some (i64 (szR (Siz.size a) n), []) := by
  have hl : a.length ≤ 9223372036854775807 := Siz.fits_len hf
  have w := wrap_i64 (n := n - (a.length : Int)) (by omega)
  refine go_laws_szInt64SS (by simp) ?_
  by_cases c : (a.length : Int) ≤ n
  rotate_left
  · rw [szR_no (by have := Siz.len_le a; omega)]; simp [ac_laws_szInt64SS, w, show n - (a.length : Int) < 0 by omega]
  have lo := fun ks => lo_laws_szInt64SS a hf ks a [] (n - a.length) rfl (by omega) (by omega)
  simp only [List.length_nil, Int.natCast_zero, Int.cast_ofNat_Int] at lo
  simp [ac_laws_szInt64SS, w, show ¬ (n - (a.length : Int) < 0) by omega, lo]
  by_cases d : (Siz.sum a : Int) ≤ n - a.length
  · rw [szR_ok (by rw [Siz.size_list]; omega)]; simp [d, Siz.size_list]; omega
  · rw [szR_no (by rw [Siz.size_list]; omega)]; simp [d]
theorem lo_laws_eqInt64SS (ls rs : List (List Int)) (hl : Siz.size ls ≤ 1048576) (hr : ls.length = rs.length) (ks : List KI) : ∀ suf suf' pre pre', ls = pre ++ suf → rs = pre' ++ suf' → pre'.length = pre.length →
    rE fns fa_laws_eqInt64SS 0 (.code lo_laws_eqInt64SS_0 :: .inBlock 0 :: ks) [(5, i64 pre.length), (1, lst 1 rs), (0, lst 1 ls)] [] =
      if suf = suf' then rE fns fa_laws_eqInt64SS 0 ks [] [] else some (bol false, []) := by
  have hl1 := Siz.len_le ls
  intro suf
  induction suf with
  | nil =>
    intro suf' pre pre' h h' he
    have hs : suf' = [] := by have := congrArg List.length h; have := congrArg List.length h'; simp at *; exact List.eq_nil_of_length_eq_zero (by omega)
    simp at h; subst h; subst hs
    rw [l_laws_eqInt64SS_0]
    simp [lb_laws_eqInt64SS_0]
  | cons x suf ih =>
    intro suf' pre pre' h h' he
    cases suf' with
    | nil => have := congrArg List.length h; have := congrArg List.length h'; simp at *; omega
    | cons y suf' =>
    rw [l_laws_eqInt64SS_0]
    have mm := mid h
    have m1 := mm.1
    have mm' := mid h'
    rw [he] at mm'
    have hw := wrap_i64 (n := pre.length + 1) (by omega)
    have ce := fun y => ev_laws_eqInt64S x y (by have := Siz.mem_le (x := x) (xs := ls) (by simp [h]); omega)
    have ih := ih suf' (pre ++ [x]) (pre' ++ [y]) (by simp [h]) (by simp [h']) (by simp [he])
    simp at ih
    by_cases c : x = y
    · subst c; simp [lb_laws_eqInt64SS_0, mm.1, mm.2.2, mm'.1, mm'.2.2, hw, ce, ih]
    · simp [lb_laws_eqInt64SS_0, mm.1, mm.2.2, mm'.1, mm'.2.2, hw, ce, ih, c]
@[simp] theorem ev_laws_eqInt64SS (a b : List (List Int)) (h : Siz.size a ≤ 1048576) : ev fns i_laws_eqInt64SS [lst 1 a, lst 1 b] [] = some (bol (decide (a = b)), []) := by
  have hl := Siz.len_le a
  refine go_laws_eqInt64SS (by simp) ?_
  by_cases hr : a.length = b.length
  · have lo := fun ks => lo_laws_eqInt64SS a b h hr ks a b [] [] rfl rfl rfl
    simp at lo
    by_cases c : a = b
    · subst c; simp [ac_laws_eqInt64SS, hr, lo]
    · simp [ac_laws_eqInt64SS, hr, lo, c]
  · have c : a ≠ b := fun e => hr (by rw [e])
    simp [ac_laws_eqInt64SS, c, show ¬ ((a.length : Int) = b.length) by omega, hr]

@[simp] theorem ty_Int64SS : (PV.ty (.lst 1 (.lst 1 .any)) ∘ (Enc.pv : List (List Int) → PV)) = Enc.pv := by funext x; simp
theorem lo_laws_szInt64SSS (ls : List (List (List Int))) (hf : Siz.fits ls) (ks : List KI) : ∀ suf pre (m : Int), ls = pre ++ suf → 0 ≤ m → m ≤ 1048576 →
    rE fns fa_laws_szInt64SSS 0 (.code lo_laws_szInt64SSS_0 :: .inBlock 0 :: ks) [(5, i64 pre.length), (1, i64 m), (0, lst 1 ls)] [] =
      if (Siz.sum suf : Int) ≤ m then rE fns fa_laws_szInt64SSS 0 ks [(1, i64 (m - Siz.sum suf))] [] else some (i64 (-1), []) := by
  have hl : ls.length ≤ 9223372036854775807 := Siz.fits_len hf
  intro suf
  induction suf with
  | nil =>
    intro pre m h h0 h1
    simp at h; subst h
    rw [l_laws_szInt64SSS_0]
    simp [lb_laws_szInt64SSS_0, Siz.sum, h0]
  | cons x suf ih =>
    intro pre m h h0 h1
    rw [l_laws_szInt64SSS_0]
    have mm := mid h
    have m1 := mm.1
    have hw := wrap_i64 (n := pre.length + 1) (by omega)
    have hx := Siz.fits_mem hf (x := x) (by simp [h])
    have ce := ev_laws_szInt64SS x m h0 h1 hx
    by_cases c : (Siz.size x : Int) ≤ m
    · have ih := ih (pre ++ [x]) (m - Siz.size x) (by simp [h]) (by omega) (by omega)
      simp at ih
      rw [szR_ok c] at ce
      simp [lb_laws_szInt64SSS_0, mm.1, mm.2.2, hw, ce, show ¬ (m - (Siz.size x : Int) < 0) by omega, ih, Siz.sum]
      have q1 : ((Siz.sum suf : Int) ≤ m - Siz.size x) ↔ ((Siz.size x : Int) + Siz.sum suf ≤ m) := by omega
      have q2 : m - (Siz.size x : Int) - Siz.sum suf = m - ((Siz.size x : Int) + Siz.sum suf) := by omega
      by_cases d : (Siz.size x : Int) + Siz.sum suf ≤ m
      · simp [q1, q2, d]
      · simp [q1, d]
    · rw [szR_no (by omega)] at ce
      simp [lb_laws_szInt64SSS_0, mm.1, mm.2.2, hw, ce, Siz.sum, show ¬ ((Siz.size x : Int) + Siz.sum suf ≤ m) by omega]

theorem ev_laws_szInt64SSS (a : List (List (List Int))) (n : Int) (h0 : 0 ≤ n) (h1 : n ≤ 1048576) (hf : Siz.fits a) : ev fns i_laws_szInt64SSS [(lst 1 a), i64 n] [] = some (i64 (szR (Siz.size a) n), []) := by
  have hl : a.length ≤ 9223372036854775807 := Siz.fits_len hf
  have w := wrap_i64 (n := n - (a.length : Int)) (by omega)
  refine go_laws_szInt64SSS (by simp) ?_
  by_cases c : (a.length : Int) ≤ n
  rotate_left
  · rw [szR_no (by have := Siz.len_le a; omega)]; simp [ac_laws_szInt64SSS, w, show n - (a.length : Int) < 0 by omega]
  have lo := fun ks => lo_laws_szInt64SSS a hf ks a [] (n - a.length) rfl (by omega) (by omega)
  simp only [List.length_nil, Int.natCast_zero, Int.cast_ofNat_Int] at lo
  simp [ac_laws_szInt64SSS, w, show ¬ (n - (a.length : Int) < 0) by omega, lo]
  by_cases d : (Siz.sum a : Int) ≤ n - a.length
  · rw [szR_ok (by rw [Siz.size_list]; omega)]; simp [d, Siz.size_list]; omega
  · rw [szR_no (by rw [Siz.size_list]; omega)]; simp [d]
theorem lo_laws_eqInt64SSS (ls rs : List (List (List Int))) (hl : Siz.size ls ≤ 1048576) (hr : ls.length = rs.length) (ks : List KI) : ∀ suf suf' pre pre', ls = pre ++ suf → rs = pre' ++ suf' → pre'.length = pre.length →
    rE fns fa_laws_eqInt64SSS 0 (.code lo_laws_eqInt64SSS_0 :: .inBlock 0 :: ks) [(5, i64 pre.length), (1, lst 1 rs), (0, lst 1 ls)] [] =
      if suf = suf' then rE fns fa_laws_eqInt64SSS 0 ks [] [] else some (bol false, []) := by
  have hl1 := Siz.len_le ls
  intro suf
  induction suf with
  | nil =>
    intro suf' pre pre' h h' he
    have hs : suf' = [] := by have := congrArg List.length h; have := congrArg List.length h'; simp at *; exact List.eq_nil_of_length_eq_zero (by omega)
    simp at h; subst h; subst hs
    rw [l_laws_eqInt64SSS_0]
    simp [lb_laws_eqInt64SSS_0]
  | cons x suf ih =>
    intro suf' pre pre' h h' he
    cases suf' with
    | nil => have := congrArg List.length h; have := congrArg List.length h'; simp at *; omega
    | cons y suf' =>
    rw [l_laws_eqInt64SSS_0]
    have mm := mid h
    have m1 := mm.1
    have mm' := mid h'
    rw [he] at mm'
    have hw := wrap_i64 (n := pre.length + 1) (by omega)
    have ce := fun y => ev_laws_eqInt64SS x y (by have := Siz.mem_le (x := x) (xs := ls) (by simp [h]); omega)
    have ih := ih suf' (pre ++ [x]) (pre' ++ [y]) (by simp [h]) (by simp [h']) (by simp [he])
    simp at ih
    by_cases c : x = y
    · subst c; simp [lb_laws_eqInt64SSS_0, mm.1, mm.2.2, mm'.1, mm'.2.2, hw, ce, ih]
    · simp [lb_laws_eqInt64SSS_0, mm.1, mm.2.2, mm'.1, mm'.2.2, hw, ce, ih, c]
@[simp] theorem ev_laws_eqInt64SSS (a b : List (List (List Int))) (h : Siz.size a ≤ 1048576) : ev fns i_laws_eqInt64SSS [lst 1 a, lst 1 b] [] = some (bol (decide (a = b)), []) := by
  have hl := Siz.len_le a
  refine go_laws_eqInt64SSS (by simp) ?_
  by_cases hr : a.length = b.length
  · have lo := fun ks => lo_laws_eqInt64SSS a b h hr ks a b [] [] rfl rfl rfl
    simp at lo
    by_cases c : a = b
    · subst c; simp [ac_laws_eqInt64SSS, hr, lo]
    · simp [ac_laws_eqInt64SSS, hr, lo, c]
  · have c : a ≠ b := fun e => hr (by rw [e])
    simp [ac_laws_eqInt64SSS, c, show ¬ ((a.length : Int) = b.length) by omega, hr]

structure GChecker where
  stack : Int
  start : Int
  accept : List Bool
  call : List (List GPush)
  ret : List (List (List Int))
  inner : List (List Int)
  deriving DecidableEq

@[simp] abbrev GChecker.v (a : GChecker) : PV := .agg [.val (.int .i64 a.stack), .val (.int .i64 a.start), lst 1 a.accept, lst 1 a.call, lst 1 a.ret, lst 1 a.inner]
instance : Enc GChecker := ⟨GChecker.v, 6, fun _ => rfl, fun _ => rfl⟩
@[simp] theorem pv_Checker (a : GChecker) : Enc.pv a = a.v := rfl
@[simp] theorem sz_Checker : Enc.sz GChecker = 6 := rfl
@[simp] theorem ty_Checker : (PV.ty (.agg [.any, .any, (.lst 1 .any), (.lst 1 (.lst 2 .any)), (.lst 1 (.lst 1 (.lst 1 .any))), (.lst 1 (.lst 1 .any))]) ∘ (Enc.pv : GChecker → PV)) = Enc.pv := by funext x; simp [PV.tys]
theorem GChecker.eq_iff (a b : GChecker) : a = b ↔ a.stack = b.stack ∧ a.start = b.start ∧ a.accept = b.accept ∧ a.call = b.call ∧ a.ret = b.ret ∧ a.inner = b.inner := by cases a; cases b; simp
instance : Siz GChecker := ⟨fun a => Siz.size a.accept + Siz.size a.call + Siz.size a.ret + Siz.size a.inner, fun a => Siz.fits a.accept ∧ Siz.fits a.call ∧ Siz.fits a.ret ∧ Siz.fits a.inner⟩
theorem size_Checker (a : GChecker) : Siz.size a = Siz.size a.accept + Siz.size a.call + Siz.size a.ret + Siz.size a.inner := rfl
theorem fits_Checker (a : GChecker) : Siz.fits a = (Siz.fits a.accept ∧ Siz.fits a.call ∧ Siz.fits a.ret ∧ Siz.fits a.inner) := rfl
theorem ev_laws_szChecker (a : GChecker) (n : Int) (h0 : 0 ≤ n) (h1 : n ≤ 1048576) (hf : Siz.fits a) : ev fns i_laws_szChecker [a.v, i64 n] [] = some (i64 (szR (Siz.size a) n), []) := by
  rw [fits_Checker] at hf; rw [size_Checker]
  refine go_laws_szChecker (by simp) ?_
  have hfx0 := hf.1
  have e0 := ev_laws_szBoolS a.accept (n) (by omega) (by omega) hfx0
  by_cases c0 : (Siz.size a.accept : Int) ≤ (n)
  rotate_left
  · rw [szR_no (by omega)] at e0; rw [szR_no (by omega)]; simp [ac_laws_szChecker, e0]
  rw [szR_ok (by omega)] at e0
  have hfx1 := hf.2.1
  have e1 := ev_laws_szPushSS a.call (n - (Siz.size a.accept : Int)) (by omega) (by omega) hfx1
  by_cases c1 : (Siz.size a.call : Int) ≤ (n - (Siz.size a.accept : Int))
  rotate_left
  · rw [szR_no (by omega)] at e1; rw [szR_no (by omega)]; simp [ac_laws_szChecker, e0, (show ¬ ((n) - (Siz.size a.accept : Int) < 0) by omega), e1]
  rw [szR_ok (by omega)] at e1
  have hfx2 := hf.2.2.1
  have e2 := ev_laws_szInt64SSS a.ret (n - (Siz.size a.accept : Int) - (Siz.size a.call : Int)) (by omega) (by omega) hfx2
  by_cases c2 : (Siz.size a.ret : Int) ≤ (n - (Siz.size a.accept : Int) - (Siz.size a.call : Int))
  rotate_left
  · rw [szR_no (by omega)] at e2; rw [szR_no (by omega)]; simp [ac_laws_szChecker, e0, (show ¬ ((n) - (Siz.size a.accept : Int) < 0) by omega), e1, (show ¬ ((n - (Siz.size a.accept : Int)) - (Siz.size a.call : Int) < 0) by omega), e2]
  rw [szR_ok (by omega)] at e2
  have hfx3 := hf.2.2.2
  have e3 := ev_laws_szInt64SS a.inner (n - (Siz.size a.accept : Int) - (Siz.size a.call : Int) - (Siz.size a.ret : Int)) (by omega) (by omega) hfx3
  by_cases c3 : (Siz.size a.inner : Int) ≤ (n - (Siz.size a.accept : Int) - (Siz.size a.call : Int) - (Siz.size a.ret : Int))
  rotate_left
  · rw [szR_no (by omega)] at e3; rw [szR_no (by omega)]; simp [ac_laws_szChecker, e0, (show ¬ ((n) - (Siz.size a.accept : Int) < 0) by omega), e1, (show ¬ ((n - (Siz.size a.accept : Int)) - (Siz.size a.call : Int) < 0) by omega), e2, (show ¬ ((n - (Siz.size a.accept : Int) - (Siz.size a.call : Int)) - (Siz.size a.ret : Int) < 0) by omega), e3]
  rw [szR_ok (by omega)] at e3
  rw [szR_ok (by omega)]; simp [ac_laws_szChecker, e0, (show ¬ ((n) - (Siz.size a.accept : Int) < 0) by omega), e1, (show ¬ ((n - (Siz.size a.accept : Int)) - (Siz.size a.call : Int) < 0) by omega), e2, (show ¬ ((n - (Siz.size a.accept : Int) - (Siz.size a.call : Int)) - (Siz.size a.ret : Int) < 0) by omega), e3, (show ¬ ((n - (Siz.size a.accept : Int) - (Siz.size a.call : Int) - (Siz.size a.ret : Int)) - (Siz.size a.inner : Int) < 0) by omega)]
  omega
@[simp] theorem ev_laws_eqChecker (a b : GChecker) (h : Siz.size a ≤ 1048576) : ev fns i_laws_eqChecker [a.v, b.v] [] = some (bol (decide (a = b)), []) := by
  rw [size_Checker] at h
  refine go_laws_eqChecker (by simp) ?_
  have e_accept := ev_laws_eqBoolS a.accept b.accept (by omega)
  have e_call := ev_laws_eqPushSS a.call b.call (by omega)
  have e_ret := ev_laws_eqInt64SSS a.ret b.ret (by omega)
  have e_inner := ev_laws_eqInt64SS a.inner b.inner (by omega)
  simp [ac_laws_eqChecker, e_accept, e_call, e_ret, e_inner]
  cases a; cases b; simp; try grind
end Go.Proofs.Ytoliadfdklfmfaa
