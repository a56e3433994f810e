/- Typed data, and what the laws' own functions say of them; printed by a program (dat.py). -/
import Derived.Test.YtjfpmpbdbpgofaaSiz
set_option linter.unusedVariables false
set_option linter.unusedSimpArgs false
set_option maxRecDepth 100000
namespace Go.Proofs.Ytjfpmpbdbpgofaa
open Aw

structure GOutPush where
  to : Int
  put : Int
  out : ByteArray
  deriving DecidableEq

@[simp] abbrev GOutPush.v (a : GOutPush) : PV := .agg [.val (.int .i64 a.to), .val (.int .i64 a.put), .val (.string a.out)]
instance : Enc GOutPush := ⟨GOutPush.v, 3, fun _ => rfl, fun _ => rfl⟩
@[simp] theorem pv_OutPush (a : GOutPush) : Enc.pv a = a.v := rfl
@[simp] theorem sz_OutPush : Enc.sz GOutPush = 3 := rfl
theorem GOutPush.eq_iff (a b : GOutPush) : a = b ↔ a.to = b.to ∧ a.put = b.put ∧ a.out = b.out := by cases a; cases b; simp
instance : Siz GOutPush := ⟨fun a => Siz.size a.out, fun a => Siz.fits a.out⟩
theorem size_OutPush (a : GOutPush) : Siz.size a = Siz.size a.out := rfl
theorem fits_OutPush (a : GOutPush) : Siz.fits a = (Siz.fits a.out) := rfl
theorem ev_laws_szOutPush (a : GOutPush) (n : Int) (h0 : 0 ≤ n) (h1 : n ≤ 1048576) (hf : Siz.fits a) : ev fns i_laws_szOutPush [a.v, i64 n] [] = some (i64 (szR (Siz.size a) n), []) := by
  rw [fits_OutPush] at hf; rw [size_OutPush]
  refine go_laws_szOutPush (by simp) ?_
  have hfx0 := hf
  try simp only [size_str, fits_str] at *
  have w0 := wrap_i64 (n := (n) - (a.out.size : Int)) (by omega)
  by_cases c0 : (a.out.size : Int) ≤ (n)
  rotate_left
  · have d0 : (n) - (a.out.size : Int) < 0 := by omega
    rw [szR_no (by omega)]; simp [ac_laws_szOutPush, w0, d0]
  rw [szR_ok (by omega)]; simp [ac_laws_szOutPush, w0, (show ¬ ((n) - (a.out.size : Int) < 0) by omega)]
@[simp] theorem ev_laws_toOutPush (a : GOutPush) (h : Siz.size a ≤ 1048576) : ev fns i_laws_toOutPush [a.v] [] = some (a.v, []) := by
  rw [size_OutPush] at h
  refine go_laws_toOutPush (by simp) ?_
  simp [ac_laws_toOutPush]
@[simp] theorem ev_laws_eqOutPush (a b : GOutPush) (h : Siz.size a ≤ 1048576) : ev fns i_laws_eqOutPush [a.v, b.v] [] = some (bol (decide (a = b)), []) := by
  rw [size_OutPush] at h
  refine go_laws_eqOutPush (by simp) ?_
  simp [ac_laws_eqOutPush]
  cases a; cases b; simp; try grind
theorem lo_laws_szOutPushS (ls : List GOutPush) (hf : Siz.fits ls) (ks : List KI) : ∀ suf pre (m : Int), ls = pre ++ suf → 0 ≤ m → m ≤ 1048576 →
    rE fns fa_laws_szOutPushS 0 (.code lo_laws_szOutPushS_0 :: .inBlock 0 :: ks) [(5, i64 pre.length), (1, i64 m), (0, lst 3 ls)] [] =
      if (Siz.sum suf : Int) ≤ m then rE fns fa_laws_szOutPushS 0 ks [(1, i64 (m - Siz.sum suf))] [] else some (i64 (-1), []) := by
  have hl : ls.length ≤ 9223372036854775807 := Siz.fits_len hf
  intro suf
  induction suf with
  | nil =>
    intro pre m h h0 h1
    simp at h; subst h
    rw [l_laws_szOutPushS_0]
    simp [lb_laws_szOutPushS_0, Siz.sum, h0]
  | cons x suf ih =>
    intro pre m h h0 h1
    rw [l_laws_szOutPushS_0]
    have mm := mid h
    have m1 := mm.1
    have hw := wrap_i64 (n := pre.length + 1) (by omega)
    have hx := Siz.fits_mem hf (x := x) (by simp [h])
    have ce := ev_laws_szOutPush x m h0 h1 hx
    by_cases c : (Siz.size x : Int) ≤ m
    · have ih := ih (pre ++ [x]) (m - Siz.size x) (by simp [h]) (by omega) (by omega)
      simp at ih
      rw [szR_ok c] at ce
      simp [lb_laws_szOutPushS_0, mm.1, mm.2.2, hw, ce, show ¬ (m - (Siz.size x : Int) < 0) by omega, ih, Siz.sum]
      have q1 : ((Siz.sum suf : Int) ≤ m - Siz.size x) ↔ ((Siz.size x : Int) + Siz.sum suf ≤ m) := by omega
      have q2 : m - (Siz.size x : Int) - Siz.sum suf = m - ((Siz.size x : Int) + Siz.sum suf) := by omega
      by_cases d : (Siz.size x : Int) + Siz.sum suf ≤ m
      · simp [q1, q2, d]
      · simp [q1, d]
    · rw [szR_no (by omega)] at ce
      simp [lb_laws_szOutPushS_0, mm.1, mm.2.2, hw, ce, Siz.sum, show ¬ ((Siz.size x : Int) + Siz.sum suf ≤ m) by omega]

theorem ev_laws_szOutPushS (a : List GOutPush) (n : Int) (h0 : 0 ≤ n) (h1 : n ≤ 1048576) (hf : Siz.fits a) : ev fns i_laws_szOutPushS [(lst 3 a), i64 n] [] = some (i64 (szR (Siz.size a) n), []) := by
  have hl : a.length ≤ 9223372036854775807 := Siz.fits_len hf
  have w := wrap_i64 (n := n - (a.length : Int)) (by omega)
  refine go_laws_szOutPushS (by simp) ?_
  by_cases c : (a.length : Int) ≤ n
  rotate_left
  · rw [szR_no (by have := Siz.len_le a; omega)]; simp [ac_laws_szOutPushS, w, show n - (a.length : Int) < 0 by omega]
  have lo := fun ks => lo_laws_szOutPushS a hf ks a [] (n - a.length) rfl (by omega) (by omega)
  simp only [List.length_nil, Int.natCast_zero, Int.cast_ofNat_Int] at lo
  simp [ac_laws_szOutPushS, w, show ¬ (n - (a.length : Int) < 0) by omega, lo]
  by_cases d : (Siz.sum a : Int) ≤ n - a.length
  · rw [szR_ok (by rw [Siz.size_list]; omega)]; simp [d, Siz.size_list]; omega
  · rw [szR_no (by rw [Siz.size_list]; omega)]; simp [d]
theorem lo_laws_eqOutPushS (ls rs : List GOutPush) (hl : Siz.size ls ≤ 1048576) (hr : ls.length = rs.length) (ks : List KI) : ∀ suf suf' pre pre', ls = pre ++ suf → rs = pre' ++ suf' → pre'.length = pre.length →
    rE fns fa_laws_eqOutPushS 0 (.code lo_laws_eqOutPushS_0 :: .inBlock 0 :: ks) [(5, i64 pre.length), (1, lst 3 rs), (0, lst 3 ls)] [] =
      if suf = suf' then rE fns fa_laws_eqOutPushS 0 ks [] [] else some (bol false, []) := by
  have hl1 := Siz.len_le ls
  intro suf
  induction suf with
  | nil =>
    intro suf' pre pre' h h' he
    have hs : suf' = [] := by have := congrArg List.length h; have := congrArg List.length h'; simp at *; exact List.eq_nil_of_length_eq_zero (by omega)
    simp at h; subst h; subst hs
    rw [l_laws_eqOutPushS_0]
    simp [lb_laws_eqOutPushS_0]
  | cons x suf ih =>
    intro suf' pre pre' h h' he
    cases suf' with
    | nil => have := congrArg List.length h; have := congrArg List.length h'; simp at *; omega
    | cons y suf' =>
    rw [l_laws_eqOutPushS_0]
    have mm := mid h
    have m1 := mm.1
    have mm' := mid h'
    rw [he] at mm'
    have hw := wrap_i64 (n := pre.length + 1) (by omega)
    have ce := fun y => ev_laws_eqOutPush x y (by have := Siz.mem_le (x := x) (xs := ls) (by simp [h]); omega)
    have ih := ih suf' (pre ++ [x]) (pre' ++ [y]) (by simp [h]) (by simp [h']) (by simp [he])
    simp at ih
    by_cases c : x = y
    · subst c; simp [lb_laws_eqOutPushS_0, mm.1, mm.2.2, mm'.1, mm'.2.2, hw, ce, ih]
    · simp [lb_laws_eqOutPushS_0, mm.1, mm.2.2, mm'.1, mm'.2.2, hw, ce, ih, c]
@[simp] theorem ev_laws_eqOutPushS (a b : List GOutPush) (h : Siz.size a ≤ 1048576) : ev fns i_laws_eqOutPushS [lst 3 a, lst 3 b] [] = some (bol (decide (a = b)), []) := by
  have hl := Siz.len_le a
  refine go_laws_eqOutPushS (by simp) ?_
  by_cases hr : a.length = b.length
  · have lo := fun ks => lo_laws_eqOutPushS a b h hr ks a b [] [] rfl rfl rfl
    simp at lo
    by_cases c : a = b
    · subst c; simp [ac_laws_eqOutPushS, hr, lo]
    · simp [ac_laws_eqOutPushS, hr, lo, c]
  · have c : a ≠ b := fun e => hr (by rw [e])
    simp [ac_laws_eqOutPushS, c, show ¬ ((a.length : Int) = b.length) by omega, hr]

@[simp] theorem ty_OutPushS : (PV.ty (.lst 3 .any) ∘ (Enc.pv : List GOutPush → PV)) = Enc.pv := by funext x; simp
theorem lo_laws_szOutPushSS (ls : List (List GOutPush)) (hf : Siz.fits ls) (ks : List KI) : ∀ suf pre (m : Int), ls = pre ++ suf → 0 ≤ m → m ≤ 1048576 →
    rE fns fa_laws_szOutPushSS 0 (.code lo_laws_szOutPushSS_0 :: .inBlock 0 :: ks) [(5, i64 pre.length), (1, i64 m), (0, lst 1 ls)] [] =
      if (Siz.sum suf : Int) ≤ m then rE fns fa_laws_szOutPushSS 0 ks [(1, i64 (m - Siz.sum suf))] [] else some (i64 (-1), []) := by
  have hl : ls.length ≤ 9223372036854775807 := Siz.fits_len hf
  intro suf
  induction suf with
  | nil =>
    intro pre m h h0 h1
    simp at h; subst h
    rw [l_laws_szOutPushSS_0]
    simp [lb_laws_szOutPushSS_0, Siz.sum, h0]
  | cons x suf ih =>
    intro pre m h h0 h1
    rw [l_laws_szOutPushSS_0]
    have mm := mid h
    have m1 := mm.1
    have hw := wrap_i64 (n := pre.length + 1) (by omega)
    have hx := Siz.fits_mem hf (x := x) (by simp [h])
    have ce := ev_laws_szOutPushS x m h0 h1 hx
    by_cases c : (Siz.size x : Int) ≤ m
    · have ih := ih (pre ++ [x]) (m - Siz.size x) (by simp [h]) (by omega) (by omega)
      simp at ih
      rw [szR_ok c] at ce
      simp [lb_laws_szOutPushSS_0, mm.1, mm.2.2, hw, ce, show ¬ (m - (Siz.size x : Int) < 0) by omega, ih, Siz.sum]
      have q1 : ((Siz.sum suf : Int) ≤ m - Siz.size x) ↔ ((Siz.size x : Int) + Siz.sum suf ≤ m) := by omega
      have q2 : m - (Siz.size x : Int) - Siz.sum suf = m - ((Siz.size x : Int) + Siz.sum suf) := by omega
      by_cases d : (Siz.size x : Int) + Siz.sum suf ≤ m
      · simp [q1, q2, d]
      · simp [q1, d]
    · rw [szR_no (by omega)] at ce
      simp [lb_laws_szOutPushSS_0, mm.1, mm.2.2, hw, ce, Siz.sum, show ¬ ((Siz.size x : Int) + Siz.sum suf ≤ m) by omega]

theorem ev_laws_szOutPushSS (a : List (List GOutPush)) (n : Int) (h0 : 0 ≤ n) (h1 : n ≤ 1048576) (hf : Siz.fits a) : ev fns i_laws_szOutPushSS [(lst 1 a), i64 n] [] = some (i64 (szR (Siz.size a) n), []) := by
  have hl : a.length ≤ 9223372036854775807 := Siz.fits_len hf
  have w := wrap_i64 (n := n - (a.length : Int)) (by omega)
  refine go_laws_szOutPushSS (by simp) ?_
  by_cases c : (a.length : Int) ≤ n
  rotate_left
  · rw [szR_no (by have := Siz.len_le a; omega)]; simp [ac_laws_szOutPushSS, w, show n - (a.length : Int) < 0 by omega]
  have lo := fun ks => lo_laws_szOutPushSS a hf ks a [] (n - a.length) rfl (by omega) (by omega)
  simp only [List.length_nil, Int.natCast_zero, Int.cast_ofNat_Int] at lo
  simp [ac_laws_szOutPushSS, w, show ¬ (n - (a.length : Int) < 0) by omega, lo]
  by_cases d : (Siz.sum a : Int) ≤ n - a.length
  · rw [szR_ok (by rw [Siz.size_list]; omega)]; simp [d, Siz.size_list]; omega
  · rw [szR_no (by rw [Siz.size_list]; omega)]; simp [d]
theorem lo_laws_eqOutPushSS (ls rs : List (List GOutPush)) (hl : Siz.size ls ≤ 1048576) (hr : ls.length = rs.length) (ks : List KI) : ∀ suf suf' pre pre', ls = pre ++ suf → rs = pre' ++ suf' → pre'.length = pre.length →
    rE fns fa_laws_eqOutPushSS 0 (.code lo_laws_eqOutPushSS_0 :: .inBlock 0 :: ks) [(5, i64 pre.length), (1, lst 1 rs), (0, lst 1 ls)] [] =
      if suf = suf' then rE fns fa_laws_eqOutPushSS 0 ks [] [] else some (bol false, []) := by
  have hl1 := Siz.len_le ls
  intro suf
  induction suf with
  | nil =>
    intro suf' pre pre' h h' he
    have hs : suf' = [] := by have := congrArg List.length h; have := congrArg List.length h'; simp at *; exact List.eq_nil_of_length_eq_zero (by omega)
    simp at h; subst h; subst hs
    rw [l_laws_eqOutPushSS_0]
    simp [lb_laws_eqOutPushSS_0]
  | cons x suf ih =>
    intro suf' pre pre' h h' he
    cases suf' with
    | nil => have := congrArg List.length h; have := congrArg List.length h'; simp at *; omega
    | cons y suf' =>
    rw [l_laws_eqOutPushSS_0]
    have mm := mid h
    have m1 := mm.1
    have mm' := mid h'
    rw [he] at mm'
    have hw := wrap_i64 (n := pre.length + 1) (by omega)
    have ce := fun y => ev_laws_eqOutPushS x y (by have := Siz.mem_le (x := x) (xs := ls) (by simp [h]); omega)
    have ih := ih suf' (pre ++ [x]) (pre' ++ [y]) (by simp [h]) (by simp [h']) (by simp [he])
    simp at ih
    by_cases c : x = y
    · subst c; simp [lb_laws_eqOutPushSS_0, mm.1, mm.2.2, mm'.1, mm'.2.2, hw, ce, ih]
    · simp [lb_laws_eqOutPushSS_0, mm.1, mm.2.2, mm'.1, mm'.2.2, hw, ce, ih, c]
@[simp] theorem ev_laws_eqOutPushSS (a b : List (List GOutPush)) (h : Siz.size a ≤ 1048576) : ev fns i_laws_eqOutPushSS [lst 1 a, lst 1 b] [] = some (bol (decide (a = b)), []) := by
  have hl := Siz.len_le a
  refine go_laws_eqOutPushSS (by simp) ?_
  by_cases hr : a.length = b.length
  · have lo := fun ks => lo_laws_eqOutPushSS a b h hr ks a b [] [] rfl rfl rfl
    simp at lo
    by_cases c : a = b
    · subst c; simp [ac_laws_eqOutPushSS, hr, lo]
    · simp [ac_laws_eqOutPushSS, hr, lo, c]
  · have c : a ≠ b := fun e => hr (by rw [e])
    simp [ac_laws_eqOutPushSS, c, show ¬ ((a.length : Int) = b.length) by omega, hr]

structure GOutMove where
  to : Int
  out : ByteArray
  deriving DecidableEq

@[simp] abbrev GOutMove.v (a : GOutMove) : PV := .agg [.val (.int .i64 a.to), .val (.string a.out)]
instance : Enc GOutMove := ⟨GOutMove.v, 2, fun _ => rfl, fun _ => rfl⟩
@[simp] theorem pv_OutMove (a : GOutMove) : Enc.pv a = a.v := rfl
@[simp] theorem sz_OutMove : Enc.sz GOutMove = 2 := rfl
theorem GOutMove.eq_iff (a b : GOutMove) : a = b ↔ a.to = b.to ∧ a.out = b.out := by cases a; cases b; simp
instance : Siz GOutMove := ⟨fun a => Siz.size a.out, fun a => Siz.fits a.out⟩
theorem size_OutMove (a : GOutMove) : Siz.size a = Siz.size a.out := rfl
theorem fits_OutMove (a : GOutMove) : Siz.fits a = (Siz.fits a.out) := rfl
theorem ev_laws_szOutMove (a : GOutMove) (n : Int) (h0 : 0 ≤ n) (h1 : n ≤ 1048576) (hf : Siz.fits a) : ev fns i_laws_szOutMove [a.v, i64 n] [] = some (i64 (szR (Siz.size a) n), []) := by
  rw [fits_OutMove] at hf; rw [size_OutMove]
  refine go_laws_szOutMove (by simp) ?_
  have hfx0 := hf
  try simp only [size_str, fits_str] at *
  have w0 := wrap_i64 (n := (n) - (a.out.size : Int)) (by omega)
  by_cases c0 : (a.out.size : Int) ≤ (n)
  rotate_left
  · have d0 : (n) - (a.out.size : Int) < 0 := by omega
    rw [szR_no (by omega)]; simp [ac_laws_szOutMove, w0, d0]
  rw [szR_ok (by omega)]; simp [ac_laws_szOutMove, w0, (show ¬ ((n) - (a.out.size : Int) < 0) by omega)]
@[simp] theorem ev_laws_toOutMove (a : GOutMove) (h : Siz.size a ≤ 1048576) : ev fns i_laws_toOutMove [a.v] [] = some (a.v, []) := by
  rw [size_OutMove] at h
  refine go_laws_toOutMove (by simp) ?_
  simp [ac_laws_toOutMove]
@[simp] theorem ev_laws_eqOutMove (a b : GOutMove) (h : Siz.size a ≤ 1048576) : ev fns i_laws_eqOutMove [a.v, b.v] [] = some (bol (decide (a = b)), []) := by
  rw [size_OutMove] at h
  refine go_laws_eqOutMove (by simp) ?_
  simp [ac_laws_eqOutMove]
  cases a; cases b; simp; try grind
theorem lo_laws_szOutMoveS (ls : List GOutMove) (hf : Siz.fits ls) (ks : List KI) : ∀ suf pre (m : Int), ls = pre ++ suf → 0 ≤ m → m ≤ 1048576 →
    rE fns fa_laws_szOutMoveS 0 (.code lo_laws_szOutMoveS_0 :: .inBlock 0 :: ks) [(5, i64 pre.length), (1, i64 m), (0, lst 2 ls)] [] =
      if (Siz.sum suf : Int) ≤ m then rE fns fa_laws_szOutMoveS 0 ks [(1, i64 (m - Siz.sum suf))] [] else some (i64 (-1), []) := by
  have hl : ls.length ≤ 9223372036854775807 := Siz.fits_len hf
  intro suf
  induction suf with
  | nil =>
    intro pre m h h0 h1
    simp at h; subst h
    rw [l_laws_szOutMoveS_0]
    simp [lb_laws_szOutMoveS_0, Siz.sum, h0]
  | cons x suf ih =>
    intro pre m h h0 h1
    rw [l_laws_szOutMoveS_0]
    have mm := mid h
    have m1 := mm.1
    have hw := wrap_i64 (n := pre.length + 1) (by omega)
    have hx := Siz.fits_mem hf (x := x) (by simp [h])
    have ce := ev_laws_szOutMove x m h0 h1 hx
    by_cases c : (Siz.size x : Int) ≤ m
    · have ih := ih (pre ++ [x]) (m - Siz.size x) (by simp [h]) (by omega) (by omega)
      simp at ih
      rw [szR_ok c] at ce
      simp [lb_laws_szOutMoveS_0, mm.1, mm.2.2, hw, ce, show ¬ (m - (Siz.size x : Int) < 0) by omega, ih, Siz.sum]
      have q1 : ((Siz.sum suf : Int) ≤ m - Siz.size x) ↔ ((Siz.size x : Int) + Siz.sum suf ≤ m) := by omega
      have q2 : m - (Siz.size x : Int) - Siz.sum suf = m - ((Siz.size x : Int) + Siz.sum suf) := by omega
      by_cases d : (Siz.size x : Int) + Siz.sum suf ≤ m
      · simp [q1, q2, d]
      · simp [q1, d]
    · rw [szR_no (by omega)] at ce
      simp [lb_laws_szOutMoveS_0, mm.1, mm.2.2, hw, ce, Siz.sum, show ¬ ((Siz.size x : Int) + Siz.sum suf ≤ m) by omega]

theorem ev_laws_szOutMoveS (a : List GOutMove) (n : Int) (h0 : 0 ≤ n) (h1 : n ≤ 1048576) (hf : Siz.fits a) : ev fns i_laws_szOutMoveS [(lst 2 a), i64 n] [] = some (i64 (szR (Siz.size a) n), []) := by
  have hl : a.length ≤ 9223372036854775807 := Siz.fits_len hf
  have w := wrap_i64 (n := n - (a.length : Int)) (by omega)
  refine go_laws_szOutMoveS (by simp) ?_
  by_cases c : (a.length : Int) ≤ n
  rotate_left
  · rw [szR_no (by have := Siz.len_le a; omega)]; simp [ac_laws_szOutMoveS, w, show n - (a.length : Int) < 0 by omega]
  have lo := fun ks => lo_laws_szOutMoveS a hf ks a [] (n - a.length) rfl (by omega) (by omega)
  simp only [List.length_nil, Int.natCast_zero, Int.cast_ofNat_Int] at lo
  simp [ac_laws_szOutMoveS, w, show ¬ (n - (a.length : Int) < 0) by omega, lo]
  by_cases d : (Siz.sum a : Int) ≤ n - a.length
  · rw [szR_ok (by rw [Siz.size_list]; omega)]; simp [d, Siz.size_list]; omega
  · rw [szR_no (by rw [Siz.size_list]; omega)]; simp [d]
theorem lo_laws_eqOutMoveS (ls rs : List GOutMove) (hl : Siz.size ls ≤ 1048576) (hr : ls.length = rs.length) (ks : List KI) : ∀ suf suf' pre pre', ls = pre ++ suf → rs = pre' ++ suf' → pre'.length = pre.length →
    rE fns fa_laws_eqOutMoveS 0 (.code lo_laws_eqOutMoveS_0 :: .inBlock 0 :: ks) [(5, i64 pre.length), (1, lst 2 rs), (0, lst 2 ls)] [] =
      if suf = suf' then rE fns fa_laws_eqOutMoveS 0 ks [] [] else some (bol false, []) := by
  have hl1 := Siz.len_le ls
  intro suf
  induction suf with
  | nil =>
    intro suf' pre pre' h h' he
    have hs : suf' = [] := by have := congrArg List.length h; have := congrArg List.length h'; simp at *; exact List.eq_nil_of_length_eq_zero (by omega)
    simp at h; subst h; subst hs
    rw [l_laws_eqOutMoveS_0]
    simp [lb_laws_eqOutMoveS_0]
  | cons x suf ih =>
    intro suf' pre pre' h h' he
    cases suf' with
    | nil => have := congrArg List.length h; have := congrArg List.length h'; simp at *; omega
    | cons y suf' =>
    rw [l_laws_eqOutMoveS_0]
    have mm := mid h
    have m1 := mm.1
    have mm' := mid h'
    rw [he] at mm'
    have hw := wrap_i64 (n := pre.length + 1) (by omega)
    have ce := fun y => ev_laws_eqOutMove x y (by have := Siz.mem_le (x := x) (xs := ls) (by simp [h]); omega)
    have ih := ih suf' (pre ++ [x]) (pre' ++ [y]) (by simp [h]) (by simp [h']) (by simp [he])
    simp at ih
    by_cases c : x = y
    · subst c; simp [lb_laws_eqOutMoveS_0, mm.1, mm.2.2, mm'.1, mm'.2.2, hw, ce, ih]
    · simp [lb_laws_eqOutMoveS_0, mm.1, mm.2.2, mm'.1, mm'.2.2, hw, ce, ih, c]
@[simp] theorem ev_laws_eqOutMoveS (a b : List GOutMove) (h : Siz.size a ≤ 1048576) : ev fns i_laws_eqOutMoveS [lst 2 a, lst 2 b] [] = some (bol (decide (a = b)), []) := by
  have hl := Siz.len_le a
  refine go_laws_eqOutMoveS (by simp) ?_
  by_cases hr : a.length = b.length
  · have lo := fun ks => lo_laws_eqOutMoveS a b h hr ks a b [] [] rfl rfl rfl
    simp at lo
    by_cases c : a = b
    · subst c; simp [ac_laws_eqOutMoveS, hr, lo]
    · simp [ac_laws_eqOutMoveS, hr, lo, c]
  · have c : a ≠ b := fun e => hr (by rw [e])
    simp [ac_laws_eqOutMoveS, c, show ¬ ((a.length : Int) = b.length) by omega, hr]

@[simp] theorem ty_OutMoveS : (PV.ty (.lst 2 .any) ∘ (Enc.pv : List GOutMove → PV)) = Enc.pv := by funext x; simp
theorem lo_laws_szOutMoveSS (ls : List (List GOutMove)) (hf : Siz.fits ls) (ks : List KI) : ∀ suf pre (m : Int), ls = pre ++ suf → 0 ≤ m → m ≤ 1048576 →
    rE fns fa_laws_szOutMoveSS 0 (.code lo_laws_szOutMoveSS_0 :: .inBlock 0 :: ks) [(5, i64 pre.length), (1, i64 m), (0, lst 1 ls)] [] =
      if (Siz.sum suf : Int) ≤ m then rE fns fa_laws_szOutMoveSS 0 ks [(1, i64 (m - Siz.sum suf))] [] else some (i64 (-1), []) := by
  have hl : ls.length ≤ 9223372036854775807 := Siz.fits_len hf
  intro suf
  induction suf with
  | nil =>
    intro pre m h h0 h1
    simp at h; subst h
    rw [l_laws_szOutMoveSS_0]
    simp [lb_laws_szOutMoveSS_0, Siz.sum, h0]
  | cons x suf ih =>
    intro pre m h h0 h1
    rw [l_laws_szOutMoveSS_0]
    have mm := mid h
    have m1 := mm.1
    have hw := wrap_i64 (n := pre.length + 1) (by omega)
    have hx := Siz.fits_mem hf (x := x) (by simp [h])
    have ce := ev_laws_szOutMoveS x m h0 h1 hx
    by_cases c : (Siz.size x : Int) ≤ m
    · have ih := ih (pre ++ [x]) (m - Siz.size x) (by simp [h]) (by omega) (by omega)
      simp at ih
      rw [szR_ok c] at ce
      simp [lb_laws_szOutMoveSS_0, mm.1, mm.2.2, hw, ce, show ¬ (m - (Siz.size x : Int) < 0) by omega, ih, Siz.sum]
      have q1 : ((Siz.sum suf : Int) ≤ m - Siz.size x) ↔ ((Siz.size x : Int) + Siz.sum suf ≤ m) := by omega
      have q2 : m - (Siz.size x : Int) - Siz.sum suf = m - ((Siz.size x : Int) + Siz.sum suf) := by omega
      by_cases d : (Siz.size x : Int) + Siz.sum suf ≤ m
      · simp [q1, q2, d]
      · simp [q1, d]
    · rw [szR_no (by omega)] at ce
      simp [lb_laws_szOutMoveSS_0, mm.1, mm.2.2, hw, ce, Siz.sum, show ¬ ((Siz.size x : Int) + Siz.sum suf ≤ m) by omega]

theorem ev_laws_szOutMoveSS (a : List (List GOutMove)) (n : Int) (h0 : 0 ≤ n) (h1 : n ≤ 1048576) (hf : Siz.fits a) : ev fns i_laws_szOutMoveSS [(lst 1 a), i64 n] [] = some (i64 (szR (Siz.size a) n), []) := by
  have hl : a.length ≤ 9223372036854775807 := Siz.fits_len hf
  have w := wrap_i64 (n := n - (a.length : Int)) (by omega)
  refine go_laws_szOutMoveSS (by simp) ?_
  by_cases c : (a.length : Int) ≤ n
  rotate_left
  · rw [szR_no (by have := Siz.len_le a; omega)]; simp [ac_laws_szOutMoveSS, w, show n - (a.length : Int) < 0 by omega]
  have lo := fun ks => lo_laws_szOutMoveSS a hf ks a [] (n - a.length) rfl (by omega) (by omega)
  simp only [List.length_nil, Int.natCast_zero, Int.cast_ofNat_Int] at lo
  simp [ac_laws_szOutMoveSS, w, show ¬ (n - (a.length : Int) < 0) by omega, lo]
  by_cases d : (Siz.sum a : Int) ≤ n - a.length
  · rw [szR_ok (by rw [Siz.size_list]; omega)]; simp [d, Siz.size_list]; omega
  · rw [szR_no (by rw [Siz.size_list]; omega)]; simp [d]
theorem lo_laws_eqOutMoveSS (ls rs : List (List GOutMove)) (hl : Siz.size ls ≤ 1048576) (hr : ls.length = rs.length) (ks : List KI) : ∀ suf suf' pre pre', ls = pre ++ suf → rs = pre' ++ suf' → pre'.length = pre.length →
    rE fns fa_laws_eqOutMoveSS 0 (.code lo_laws_eqOutMoveSS_0 :: .inBlock 0 :: ks) [(5, i64 pre.length), (1, lst 1 rs), (0, lst 1 ls)] [] =
      if suf = suf' then rE fns fa_laws_eqOutMoveSS 0 ks [] [] else some (bol false, []) := by
  have hl1 := Siz.len_le ls
  intro suf
  induction suf with
  | nil =>
    intro suf' pre pre' h h' he
    have hs : suf' = [] := by have := congrArg List.length h; have := congrArg List.length h'; simp at *; exact List.eq_nil_of_length_eq_zero (by omega)
    simp at h; subst h; subst hs
    rw [l_laws_eqOutMoveSS_0]
    simp [lb_laws_eqOutMoveSS_0]
  | cons x suf ih =>
    intro suf' pre pre' h h' he
    cases suf' with
    | nil => have := congrArg List.length h; have := congrArg List.length h'; simp at *; omega
    | cons y suf' =>
    rw [l_laws_eqOutMoveSS_0]
    have mm := mid h
    have m1 := mm.1
    have mm' := mid h'
    rw [he] at mm'
    have hw := wrap_i64 (n := pre.length + 1) (by omega)
    have ce := fun y => ev_laws_eqOutMoveS x y (by have := Siz.mem_le (x := x) (xs := ls) (by simp [h]); omega)
    have ih := ih suf' (pre ++ [x]) (pre' ++ [y]) (by simp [h]) (by simp [h']) (by simp [he])
    simp at ih
    by_cases c : x = y
    · subst c; simp [lb_laws_eqOutMoveSS_0, mm.1, mm.2.2, mm'.1, mm'.2.2, hw, ce, ih]
    · simp [lb_laws_eqOutMoveSS_0, mm.1, mm.2.2, mm'.1, mm'.2.2, hw, ce, ih, c]
@[simp] theorem ev_laws_eqOutMoveSS (a b : List (List GOutMove)) (h : Siz.size a ≤ 1048576) : ev fns i_laws_eqOutMoveSS [lst 1 a, lst 1 b] [] = some (bol (decide (a = b)), []) := by
  have hl := Siz.len_le a
  refine go_laws_eqOutMoveSS (by simp) ?_
  by_cases hr : a.length = b.length
  · have lo := fun ks => lo_laws_eqOutMoveSS a b h hr ks a b [] [] rfl rfl rfl
    simp at lo
    by_cases c : a = b
    · subst c; simp [ac_laws_eqOutMoveSS, hr, lo]
    · simp [ac_laws_eqOutMoveSS, hr, lo, c]
  · have c : a ≠ b := fun e => hr (by rw [e])
    simp [ac_laws_eqOutMoveSS, c, show ¬ ((a.length : Int) = b.length) by omega, hr]

@[simp] theorem ty_OutMoveSS : (PV.ty (.lst 1 (.lst 2 .any)) ∘ (Enc.pv : List (List GOutMove) → PV)) = Enc.pv := by funext x; simp
theorem lo_laws_szOutMoveSSS (ls : List (List (List GOutMove))) (hf : Siz.fits ls) (ks : List KI) : ∀ suf pre (m : Int), ls = pre ++ suf → 0 ≤ m → m ≤ 1048576 →
    rE fns fa_laws_szOutMoveSSS 0 (.code lo_laws_szOutMoveSSS_0 :: .inBlock 0 :: ks) [(5, i64 pre.length), (1, i64 m), (0, lst 1 ls)] [] =
      if (Siz.sum suf : Int) ≤ m then rE fns fa_laws_szOutMoveSSS 0 ks [(1, i64 (m - Siz.sum suf))] [] else some (i64 (-1), []) := by
  have hl : ls.length ≤ 9223372036854775807 := Siz.fits_len hf
  intro suf
  induction suf with
  | nil =>
    intro pre m h h0 h1
    simp at h; subst h
    rw [l_laws_szOutMoveSSS_0]
    simp [lb_laws_szOutMoveSSS_0, Siz.sum, h0]
  | cons x suf ih =>
    intro pre m h h0 h1
    rw [l_laws_szOutMoveSSS_0]
    have mm := mid h
    have m1 := mm.1
    have hw := wrap_i64 (n := pre.length + 1) (by omega)
    have hx := Siz.fits_mem hf (x := x) (by simp [h])
    have ce := ev_laws_szOutMoveSS x m h0 h1 hx
    by_cases c : (Siz.size x : Int) ≤ m
    · have ih := ih (pre ++ [x]) (m - Siz.size x) (by simp [h]) (by omega) (by omega)
      simp at ih
      rw [szR_ok c] at ce
      simp [lb_laws_szOutMoveSSS_0, mm.1, mm.2.2, hw, ce, show ¬ (m - (Siz.size x : Int) < 0) by omega, ih, Siz.sum]
      have q1 : ((Siz.sum suf : Int) ≤ m - Siz.size x) ↔ ((Siz.size x : Int) + Siz.sum suf ≤ m) := by omega
      have q2 : m - (Siz.size x : Int) - Siz.sum suf = m - ((Siz.size x : Int) + Siz.sum suf) := by omega
      by_cases d : (Siz.size x : Int) + Siz.sum suf ≤ m
      · simp [q1, q2, d]
      · simp [q1, d]
    · rw [szR_no (by omega)] at ce
      simp [lb_laws_szOutMoveSSS_0, mm.1, mm.2.2, hw, ce, Siz.sum, show ¬ ((Siz.size x : Int) + Siz.sum suf ≤ m) by omega]

theorem ev_laws_szOutMoveSSS (a : List (List (List GOutMove))) (n : Int) (h0 : 0 ≤ n) (h1 : n ≤ 1048576) (hf : Siz.fits a) : ev fns i_laws_szOutMoveSSS [(lst 1 a), i64 n] [] = some (i64 (szR (Siz.size a) n), []) := by
  have hl : a.length ≤ 9223372036854775807 := Siz.fits_len hf
  have w := wrap_i64 (n := n - (a.length : Int)) (by omega)
  refine go_laws_szOutMoveSSS (by simp) ?_
  by_cases c : (a.length : Int) ≤ n
  rotate_left
  · rw [szR_no (by have := Siz.len_le a; omega)]; simp [ac_laws_szOutMoveSSS, w, show n - (a.length : Int) < 0 by omega]
  have lo := fun ks => lo_laws_szOutMoveSSS a hf ks a [] (n - a.length) rfl (by omega) (by omega)
  simp only [List.length_nil, Int.natCast_zero, Int.cast_ofNat_Int] at lo
  simp [ac_laws_szOutMoveSSS, w, show ¬ (n - (a.length : Int) < 0) by omega, lo]
  by_cases d : (Siz.sum a : Int) ≤ n - a.length
  · rw [szR_ok (by rw [Siz.size_list]; omega)]; simp [d, Siz.size_list]; omega
  · rw [szR_no (by rw [Siz.size_list]; omega)]; simp [d]
theorem lo_laws_eqOutMoveSSS (ls rs : List (List (List GOutMove))) (hl : Siz.size ls ≤ 1048576) (hr : ls.length = rs.length) (ks : List KI) : ∀ suf suf' pre pre', ls = pre ++ suf → rs = pre' ++ suf' → pre'.length = pre.length →
    rE fns fa_laws_eqOutMoveSSS 0 (.code lo_laws_eqOutMoveSSS_0 :: .inBlock 0 :: ks) [(5, i64 pre.length), (1, lst 1 rs), (0, lst 1 ls)] [] =
      if suf = suf' then rE fns fa_laws_eqOutMoveSSS 0 ks [] [] else some (bol false, []) := by
  have hl1 := Siz.len_le ls
  intro suf
  induction suf with
  | nil =>
    intro suf' pre pre' h h' he
    have hs : suf' = [] := by have := congrArg List.length h; have := congrArg List.length h'; simp at *; exact List.eq_nil_of_length_eq_zero (by omega)
    simp at h; subst h; subst hs
    rw [l_laws_eqOutMoveSSS_0]
    simp [lb_laws_eqOutMoveSSS_0]
  | cons x suf ih =>
    intro suf' pre pre' h h' he
    cases suf' with
    | nil => have := congrArg List.length h; have := congrArg List.length h'; simp at *; omega
    | cons y suf' =>
    rw [l_laws_eqOutMoveSSS_0]
    have mm := mid h
    have m1 := mm.1
    have mm' := mid h'
    rw [he] at mm'
    have hw := wrap_i64 (n := pre.length + 1) (by omega)
    have ce := fun y => ev_laws_eqOutMoveSS x y (by have := Siz.mem_le (x := x) (xs := ls) (by simp [h]); omega)
    have ih := ih suf' (pre ++ [x]) (pre' ++ [y]) (by simp [h]) (by simp [h']) (by simp [he])
    simp at ih
    by_cases c : x = y
    · subst c; simp [lb_laws_eqOutMoveSSS_0, mm.1, mm.2.2, mm'.1, mm'.2.2, hw, ce, ih]
    · simp [lb_laws_eqOutMoveSSS_0, mm.1, mm.2.2, mm'.1, mm'.2.2, hw, ce, ih, c]
@[simp] theorem ev_laws_eqOutMoveSSS (a b : List (List (List GOutMove))) (h : Siz.size a ≤ 1048576) : ev fns i_laws_eqOutMoveSSS [lst 1 a, lst 1 b] [] = some (bol (decide (a = b)), []) := by
  have hl := Siz.len_le a
  refine go_laws_eqOutMoveSSS (by simp) ?_
  by_cases hr : a.length = b.length
  · have lo := fun ks => lo_laws_eqOutMoveSSS a b h hr ks a b [] [] rfl rfl rfl
    simp at lo
    by_cases c : a = b
    · subst c; simp [ac_laws_eqOutMoveSSS, hr, lo]
    · simp [ac_laws_eqOutMoveSSS, hr, lo, c]
  · have c : a ≠ b := fun e => hr (by rw [e])
    simp [ac_laws_eqOutMoveSSS, c, show ¬ ((a.length : Int) = b.length) by omega, hr]

structure GRewriter where
  stack : Int
  start : Int
  call : List (List GOutPush)
  ret : List (List (List GOutMove))
  inner : List (List GOutMove)
  deriving DecidableEq

@[simp] abbrev GRewriter.v (a : GRewriter) : PV := .agg [.val (.int .i64 a.stack), .val (.int .i64 a.start), lst 1 a.call, lst 1 a.ret, lst 1 a.inner]
instance : Enc GRewriter := ⟨GRewriter.v, 5, fun _ => rfl, fun _ => rfl⟩
@[simp] theorem pv_Rewriter (a : GRewriter) : Enc.pv a = a.v := rfl
@[simp] theorem sz_Rewriter : Enc.sz GRewriter = 5 := rfl
@[simp] theorem ty_Rewriter : (PV.ty (.agg [.any, .any, (.lst 1 (.lst 3 .any)), (.lst 1 (.lst 1 (.lst 2 .any))), (.lst 1 (.lst 2 .any))]) ∘ (Enc.pv : GRewriter → PV)) = Enc.pv := by funext x; simp [PV.tys]
theorem GRewriter.eq_iff (a b : GRewriter) : a = b ↔ a.stack = b.stack ∧ a.start = b.start ∧ a.call = b.call ∧ a.ret = b.ret ∧ a.inner = b.inner := by cases a; cases b; simp
instance : Siz GRewriter := ⟨fun a => Siz.size a.call + Siz.size a.ret + Siz.size a.inner, fun a => Siz.fits a.call ∧ Siz.fits a.ret ∧ Siz.fits a.inner⟩
theorem size_Rewriter (a : GRewriter) : Siz.size a = Siz.size a.call + Siz.size a.ret + Siz.size a.inner := rfl
theorem fits_Rewriter (a : GRewriter) : Siz.fits a = (Siz.fits a.call ∧ Siz.fits a.ret ∧ Siz.fits a.inner) := rfl
theorem ev_laws_szRewriter (a : GRewriter) (n : Int) (h0 : 0 ≤ n) (h1 : n ≤ 1048576) (hf : Siz.fits a) : ev fns i_laws_szRewriter [a.v, i64 n] [] = some (i64 (szR (Siz.size a) n), []) := by
  rw [fits_Rewriter] at hf; rw [size_Rewriter]
  refine go_laws_szRewriter (by simp) ?_
  have hfx0 := hf.1
  have e0 := ev_laws_szOutPushSS a.call (n) (by omega) (by omega) hfx0
  by_cases c0 : (Siz.size a.call : Int) ≤ (n)
  rotate_left
  · rw [szR_no (by omega)] at e0; rw [szR_no (by omega)]; simp [ac_laws_szRewriter, e0]
  rw [szR_ok (by omega)] at e0
  have hfx1 := hf.2.1
  have e1 := ev_laws_szOutMoveSSS a.ret (n - (Siz.size a.call : Int)) (by omega) (by omega) hfx1
  by_cases c1 : (Siz.size a.ret : Int) ≤ (n - (Siz.size a.call : Int))
  rotate_left
  · rw [szR_no (by omega)] at e1; rw [szR_no (by omega)]; simp [ac_laws_szRewriter, e0, (show ¬ ((n) - (Siz.size a.call : Int) < 0) by omega), e1]
  rw [szR_ok (by omega)] at e1
  have hfx2 := hf.2.2
  have e2 := ev_laws_szOutMoveSS a.inner (n - (Siz.size a.call : Int) - (Siz.size a.ret : Int)) (by omega) (by omega) hfx2
  by_cases c2 : (Siz.size a.inner : Int) ≤ (n - (Siz.size a.call : Int) - (Siz.size a.ret : Int))
  rotate_left
  · rw [szR_no (by omega)] at e2; rw [szR_no (by omega)]; simp [ac_laws_szRewriter, e0, (show ¬ ((n) - (Siz.size a.call : Int) < 0) by omega), e1, (show ¬ ((n - (Siz.size a.call : Int)) - (Siz.size a.ret : Int) < 0) by omega), e2]
  rw [szR_ok (by omega)] at e2
  rw [szR_ok (by omega)]; simp [ac_laws_szRewriter, e0, (show ¬ ((n) - (Siz.size a.call : Int) < 0) by omega), e1, (show ¬ ((n - (Siz.size a.call : Int)) - (Siz.size a.ret : Int) < 0) by omega), e2, (show ¬ ((n - (Siz.size a.call : Int) - (Siz.size a.ret : Int)) - (Siz.size a.inner : Int) < 0) by omega)]
  omega
@[simp] theorem ev_laws_eqRewriter (a b : GRewriter) (h : Siz.size a ≤ 1048576) : ev fns i_laws_eqRewriter [a.v, b.v] [] = some (bol (decide (a = b)), []) := by
  rw [size_Rewriter] at h
  refine go_laws_eqRewriter (by simp) ?_
  have e_call := ev_laws_eqOutPushSS a.call b.call (by omega)
  have e_ret := ev_laws_eqOutMoveSSS a.ret b.ret (by omega)
  have e_inner := ev_laws_eqOutMoveSS a.inner b.inner (by omega)
  simp [ac_laws_eqRewriter, e_call, e_ret, e_inner]
  cases a; cases b; simp; try grind
end Go.Proofs.Ytjfpmpbdbpgofaa
