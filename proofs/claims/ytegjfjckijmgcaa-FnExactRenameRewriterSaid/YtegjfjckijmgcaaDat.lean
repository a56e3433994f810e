/- Typed data, and what the laws' own functions say of them; printed by a program (dat.py). -/
import Derived.Test.YtegjfjckijmgcaaSiz
set_option linter.unusedVariables false
set_option linter.unusedSimpArgs false
set_option maxRecDepth 100000
namespace Go.Proofs.Ytegjfjckijmgcaa
open Aw

structure GOutPush where
  to : Int
  put : Int
  out : ByteArray
  deriving DecidableEq

@[simp] abbrev GOutPush.v (a : GOutPush) : PV := .agg [.val (.int .i64 a.to), .val (.int .i64 a.put), .val (.string a.out)]
instance : Enc GOutPush := ⟨GOutPush.v, 3, fun _ => rfl, fun _ => rfl⟩
@[simp] theorem pv_OutPush (a : GOutPush) : Enc.pv a = a.v := rfl
@[simp] theorem sz_OutPush : Enc.sz GOutPush = 3 := rfl
theorem GOutPush.eq_iff (a b : GOutPush) : a = b ↔ a.to = b.to ∧ a.put = b.put ∧ a.out = b.out := by cases a; cases b; simp
instance : Siz GOutPush := ⟨fun a => Siz.size a.out, fun a => Siz.fits a.out⟩
theorem size_OutPush (a : GOutPush) : Siz.size a = Siz.size a.out := rfl
theorem fits_OutPush (a : GOutPush) : Siz.fits a = (Siz.fits a.out) := rfl
@[simp] theorem ev_laws_eqOutPush (a b : GOutPush) (h : Siz.size a ≤ 1048576) : ev fns i_laws_eqOutPush [a.v, b.v] [] = some (bol (decide (a = b)), []) := by
  rw [size_OutPush] at h
  refine go_laws_eqOutPush (by simp) ?_
  simp [ac_laws_eqOutPush]
  cases a; cases b; simp; try grind
theorem lo_laws_eqOutPushS (ls rs : List GOutPush) (hl : Siz.size ls ≤ 1048576) (hr : ls.length = rs.length) (ks : List KI) : ∀ suf suf' pre pre', ls = pre ++ suf → rs = pre' ++ suf' → pre'.length = pre.length →
    rE fns fa_laws_eqOutPushS 0 (.code lo_laws_eqOutPushS_0 :: .inBlock 0 :: ks) [(5, i64 pre.length), (1, lst 3 rs), (0, lst 3 ls)] [] =
      if suf = suf' then rE fns fa_laws_eqOutPushS 0 ks [] [] else some (bol false, []) := by
  have hl1 := Siz.len_le ls
  intro suf
  induction suf with
  | nil =>
    intro suf' pre pre' h h' he
    have hs : suf' = [] := by have := congrArg List.length h; have := congrArg List.length h'; simp at *; exact List.eq_nil_of_length_eq_zero (by omega)
    simp at h; subst h; subst hs
    rw [l_laws_eqOutPushS_0]
    simp [lb_laws_eqOutPushS_0]
  | cons x suf ih =>
    intro suf' pre pre' h h' he
    cases suf' with
    | nil => have := congrArg List.length h; have := congrArg List.length h'; simp at *; omega
    | cons y suf' =>
    rw [l_laws_eqOutPushS_0]
    have mm := mid h
    have m1 := mm.1
    have mm' := mid h'
    rw [he] at mm'
    have hw := wrap_i64 (n := pre.length + 1) (by omega)
    have ce := fun y => ev_laws_eqOutPush x y (by have := Siz.mem_le (x := x) (xs := ls) (by simp [h]); omega)
    have ih := ih suf' (pre ++ [x]) (pre' ++ [y]) (by simp [h]) (by simp [h']) (by simp [he])
    simp at ih
    by_cases c : x = y
    · subst c; simp [lb_laws_eqOutPushS_0, mm.1, mm.2.2, mm'.1, mm'.2.2, hw, ce, ih]
    · simp [lb_laws_eqOutPushS_0, mm.1, mm.2.2, mm'.1, mm'.2.2, hw, ce, ih, c]
@[simp] theorem ev_laws_eqOutPushS (a b : List GOutPush) (h : Siz.size a ≤ 1048576) : ev fns i_laws_eqOutPushS [lst 3 a, lst 3 b] [] = some (bol (decide (a = b)), []) := by
  have hl := Siz.len_le a
  refine go_laws_eqOutPushS (by simp) ?_
  by_cases hr : a.length = b.length
  · have lo := fun ks => lo_laws_eqOutPushS a b h hr ks a b [] [] rfl rfl rfl
    simp at lo
    by_cases c : a = b
    · subst c; simp [ac_laws_eqOutPushS, hr, lo]
    · simp [ac_laws_eqOutPushS, hr, lo, c]
  · have c : a ≠ b := fun e => hr (by rw [e])
    simp [ac_laws_eqOutPushS, c, show ¬ ((a.length : Int) = b.length) by omega, hr]

@[simp] theorem ty_OutPushS : (PV.ty (.lst 3 .any) ∘ (Enc.pv : List GOutPush → PV)) = Enc.pv := by funext x; simp
theorem lo_laws_eqOutPushSS (ls rs : List (List GOutPush)) (hl : Siz.size ls ≤ 1048576) (hr : ls.length = rs.length) (ks : List KI) : ∀ suf suf' pre pre', ls = pre ++ suf → rs = pre' ++ suf' → pre'.length = pre.length →
    rE fns fa_laws_eqOutPushSS 0 (.code lo_laws_eqOutPushSS_0 :: .inBlock 0 :: ks) [(5, i64 pre.length), (1, lst 1 rs), (0, lst 1 ls)] [] =
      if suf = suf' then rE fns fa_laws_eqOutPushSS 0 ks [] [] else some (bol false, []) := by
  have hl1 := Siz.len_le ls
  intro suf
  induction suf with
  | nil =>
    intro suf' pre pre' h h' he
    have hs : suf' = [] := by have := congrArg List.length h; have := congrArg List.length h'; simp at *; exact List.eq_nil_of_length_eq_zero (by omega)
    simp at h; subst h; subst hs
    rw [l_laws_eqOutPushSS_0]
    simp [lb_laws_eqOutPushSS_0]
  | cons x suf ih =>
    intro suf' pre pre' h h' he
    cases suf' with
    | nil => have := congrArg List.length h; have := congrArg List.length h'; simp at *; omega
    | cons y suf' =>
    rw [l_laws_eqOutPushSS_0]
    have mm := mid h
    have m1 := mm.1
    have mm' := mid h'
    rw [he] at mm'
    have hw := wrap_i64 (n := pre.length + 1) (by omega)
    have ce := fun y => ev_laws_eqOutPushS x y (by have := Siz.mem_le (x := x) (xs := ls) (by simp [h]); omega)
    have ih := ih suf' (pre ++ [x]) (pre' ++ [y]) (by simp [h]) (by simp [h']) (by simp [he])
    simp at ih
    by_cases c : x = y
    · subst c; simp [lb_laws_eqOutPushSS_0, mm.1, mm.2.2, mm'.1, mm'.2.2, hw, ce, ih]
    · simp [lb_laws_eqOutPushSS_0, mm.1, mm.2.2, mm'.1, mm'.2.2, hw, ce, ih, c]
@[simp] theorem ev_laws_eqOutPushSS (a b : List (List GOutPush)) (h : Siz.size a ≤ 1048576) : ev fns i_laws_eqOutPushSS [lst 1 a, lst 1 b] [] = some (bol (decide (a = b)), []) := by
  have hl := Siz.len_le a
  refine go_laws_eqOutPushSS (by simp) ?_
  by_cases hr : a.length = b.length
  · have lo := fun ks => lo_laws_eqOutPushSS a b h hr ks a b [] [] rfl rfl rfl
    simp at lo
    by_cases c : a = b
    · subst c; simp [ac_laws_eqOutPushSS, hr, lo]
    · simp [ac_laws_eqOutPushSS, hr, lo, c]
  · have c : a ≠ b := fun e => hr (by rw [e])
    simp [ac_laws_eqOutPushSS, c, show ¬ ((a.length : Int) = b.length) by omega, hr]

structure GOutMove where
  to : Int
  out : ByteArray
  deriving DecidableEq

@[simp] abbrev GOutMove.v (a : GOutMove) : PV := .agg [.val (.int .i64 a.to), .val (.string a.out)]
instance : Enc GOutMove := ⟨GOutMove.v, 2, fun _ => rfl, fun _ => rfl⟩
@[simp] theorem pv_OutMove (a : GOutMove) : Enc.pv a = a.v := rfl
@[simp] theorem sz_OutMove : Enc.sz GOutMove = 2 := rfl
theorem GOutMove.eq_iff (a b : GOutMove) : a = b ↔ a.to = b.to ∧ a.out = b.out := by cases a; cases b; simp
instance : Siz GOutMove := ⟨fun a => Siz.size a.out, fun a => Siz.fits a.out⟩
theorem size_OutMove (a : GOutMove) : Siz.size a = Siz.size a.out := rfl
theorem fits_OutMove (a : GOutMove) : Siz.fits a = (Siz.fits a.out) := rfl
@[simp] theorem ev_laws_eqOutMove (a b : GOutMove) (h : Siz.size a ≤ 1048576) : ev fns i_laws_eqOutMove [a.v, b.v] [] = some (bol (decide (a = b)), []) := by
  rw [size_OutMove] at h
  refine go_laws_eqOutMove (by simp) ?_
  simp [ac_laws_eqOutMove]
  cases a; cases b; simp; try grind
theorem lo_laws_eqOutMoveS (ls rs : List GOutMove) (hl : Siz.size ls ≤ 1048576) (hr : ls.length = rs.length) (ks : List KI) : ∀ suf suf' pre pre', ls = pre ++ suf → rs = pre' ++ suf' → pre'.length = pre.length →
    rE fns fa_laws_eqOutMoveS 0 (.code lo_laws_eqOutMoveS_0 :: .inBlock 0 :: ks) [(5, i64 pre.length), (1, lst 2 rs), (0, lst 2 ls)] [] =
      if suf = suf' then rE fns fa_laws_eqOutMoveS 0 ks [] [] else some (bol false, []) := by
  have hl1 := Siz.len_le ls
  intro suf
  induction suf with
  | nil =>
    intro suf' pre pre' h h' he
    have hs : suf' = [] := by have := congrArg List.length h; have := congrArg List.length h'; simp at *; exact List.eq_nil_of_length_eq_zero (by omega)
    simp at h; subst h; subst hs
    rw [l_laws_eqOutMoveS_0]
    simp [lb_laws_eqOutMoveS_0]
  | cons x suf ih =>
    intro suf' pre pre' h h' he
    cases suf' with
    | nil => have := congrArg List.length h; have := congrArg List.length h'; simp at *; omega
    | cons y suf' =>
    rw [l_laws_eqOutMoveS_0]
    have mm := mid h
    have m1 := mm.1
    have mm' := mid h'
    rw [he] at mm'
    have hw := wrap_i64 (n := pre.length + 1) (by omega)
    have ce := fun y => ev_laws_eqOutMove x y (by have := Siz.mem_le (x := x) (xs := ls) (by simp [h]); omega)
    have ih := ih suf' (pre ++ [x]) (pre' ++ [y]) (by simp [h]) (by simp [h']) (by simp [he])
    simp at ih
    by_cases c : x = y
    · subst c; simp [lb_laws_eqOutMoveS_0, mm.1, mm.2.2, mm'.1, mm'.2.2, hw, ce, ih]
    · simp [lb_laws_eqOutMoveS_0, mm.1, mm.2.2, mm'.1, mm'.2.2, hw, ce, ih, c]
@[simp] theorem ev_laws_eqOutMoveS (a b : List GOutMove) (h : Siz.size a ≤ 1048576) : ev fns i_laws_eqOutMoveS [lst 2 a, lst 2 b] [] = some (bol (decide (a = b)), []) := by
  have hl := Siz.len_le a
  refine go_laws_eqOutMoveS (by simp) ?_
  by_cases hr : a.length = b.length
  · have lo := fun ks => lo_laws_eqOutMoveS a b h hr ks a b [] [] rfl rfl rfl
    simp at lo
    by_cases c : a = b
    · subst c; simp [ac_laws_eqOutMoveS, hr, lo]
    · simp [ac_laws_eqOutMoveS, hr, lo, c]
  · have c : a ≠ b := fun e => hr (by rw [e])
    simp [ac_laws_eqOutMoveS, c, show ¬ ((a.length : Int) = b.length) by omega, hr]

@[simp] theorem ty_OutMoveS : (PV.ty (.lst 2 .any) ∘ (Enc.pv : List GOutMove → PV)) = Enc.pv := by funext x; simp
theorem lo_laws_eqOutMoveSS (ls rs : List (List GOutMove)) (hl : Siz.size ls ≤ 1048576) (hr : ls.length = rs.length) (ks : List KI) : ∀ suf suf' pre pre', ls = pre ++ suf → rs = pre' ++ suf' → pre'.length = pre.length →
    rE fns fa_laws_eqOutMoveSS 0 (.code lo_laws_eqOutMoveSS_0 :: .inBlock 0 :: ks) [(5, i64 pre.length), (1, lst 1 rs), (0, lst 1 ls)] [] =
      if suf = suf' then rE fns fa_laws_eqOutMoveSS 0 ks [] [] else some (bol false, []) := by
  have hl1 := Siz.len_le ls
  intro suf
  induction suf with
  | nil =>
    intro suf' pre pre' h h' he
    have hs : suf' = [] := by have := congrArg List.length h; have := congrArg List.length h'; simp at *; exact List.eq_nil_of_length_eq_zero (by omega)
    simp at h; subst h; subst hs
    rw [l_laws_eqOutMoveSS_0]
    simp [lb_laws_eqOutMoveSS_0]
  | cons x suf ih =>
    intro suf' pre pre' h h' he
    cases suf' with
    | nil => have := congrArg List.length h; have := congrArg List.length h'; simp at *; omega
    | cons y suf' =>
    rw [l_laws_eqOutMoveSS_0]
    have mm := mid h
    have m1 := mm.1
    have mm' := mid h'
    rw [he] at mm'
    have hw := wrap_i64 (n := pre.length + 1) (by omega)
    have ce := fun y => ev_laws_eqOutMoveS x y (by have := Siz.mem_le (x := x) (xs := ls) (by simp [h]); omega)
    have ih := ih suf' (pre ++ [x]) (pre' ++ [y]) (by simp [h]) (by simp [h']) (by simp [he])
    simp at ih
    by_cases c : x = y
    · subst c; simp [lb_laws_eqOutMoveSS_0, mm.1, mm.2.2, mm'.1, mm'.2.2, hw, ce, ih]
    · simp [lb_laws_eqOutMoveSS_0, mm.1, mm.2.2, mm'.1, mm'.2.2, hw, ce, ih, c]
@[simp] theorem ev_laws_eqOutMoveSS (a b : List (List GOutMove)) (h : Siz.size a ≤ 1048576) : ev fns i_laws_eqOutMoveSS [lst 1 a, lst 1 b] [] = some (bol (decide (a = b)), []) := by
  have hl := Siz.len_le a
  refine go_laws_eqOutMoveSS (by simp) ?_
  by_cases hr : a.length = b.length
  · have lo := fun ks => lo_laws_eqOutMoveSS a b h hr ks a b [] [] rfl rfl rfl
    simp at lo
    by_cases c : a = b
    · subst c; simp [ac_laws_eqOutMoveSS, hr, lo]
    · simp [ac_laws_eqOutMoveSS, hr, lo, c]
  · have c : a ≠ b := fun e => hr (by rw [e])
    simp [ac_laws_eqOutMoveSS, c, show ¬ ((a.length : Int) = b.length) by omega, hr]

@[simp] theorem ty_OutMoveSS : (PV.ty (.lst 1 (.lst 2 .any)) ∘ (Enc.pv : List (List GOutMove) → PV)) = Enc.pv := by funext x; simp
theorem lo_laws_eqOutMoveSSS (ls rs : List (List (List GOutMove))) (hl : Siz.size ls ≤ 1048576) (hr : ls.length = rs.length) (ks : List KI) : ∀ suf suf' pre pre', ls = pre ++ suf → rs = pre' ++ suf' → pre'.length = pre.length →
    rE fns fa_laws_eqOutMoveSSS 0 (.code lo_laws_eqOutMoveSSS_0 :: .inBlock 0 :: ks) [(5, i64 pre.length), (1, lst 1 rs), (0, lst 1 ls)] [] =
      if suf = suf' then rE fns fa_laws_eqOutMoveSSS 0 ks [] [] else some (bol false, []) := by
  have hl1 := Siz.len_le ls
  intro suf
  induction suf with
  | nil =>
    intro suf' pre pre' h h' he
    have hs : suf' = [] := by have := congrArg List.length h; have := congrArg List.length h'; simp at *; exact List.eq_nil_of_length_eq_zero (by omega)
    simp at h; subst h; subst hs
    rw [l_laws_eqOutMoveSSS_0]
    simp [lb_laws_eqOutMoveSSS_0]
  | cons x suf ih =>
    intro suf' pre pre' h h' he
    cases suf' with
    | nil => have := congrArg List.length h; have := congrArg List.length h'; simp at *; omega
    | cons y suf' =>
    rw [l_laws_eqOutMoveSSS_0]
    have mm := mid h
    have m1 := mm.1
    have mm' := mid h'
    rw [he] at mm'
    have hw := wrap_i64 (n := pre.length + 1) (by omega)
    have ce := fun y => ev_laws_eqOutMoveSS x y (by have := Siz.mem_le (x := x) (xs := ls) (by simp [h]); omega)
    have ih := ih suf' (pre ++ [x]) (pre' ++ [y]) (by simp [h]) (by simp [h']) (by simp [he])
    simp at ih
    by_cases c : x = y
    · subst c; simp [lb_laws_eqOutMoveSSS_0, mm.1, mm.2.2, mm'.1, mm'.2.2, hw, ce, ih]
    · simp [lb_laws_eqOutMoveSSS_0, mm.1, mm.2.2, mm'.1, mm'.2.2, hw, ce, ih, c]
@[simp] theorem ev_laws_eqOutMoveSSS (a b : List (List (List GOutMove))) (h : Siz.size a ≤ 1048576) : ev fns i_laws_eqOutMoveSSS [lst 1 a, lst 1 b] [] = some (bol (decide (a = b)), []) := by
  have hl := Siz.len_le a
  refine go_laws_eqOutMoveSSS (by simp) ?_
  by_cases hr : a.length = b.length
  · have lo := fun ks => lo_laws_eqOutMoveSSS a b h hr ks a b [] [] rfl rfl rfl
    simp at lo
    by_cases c : a = b
    · subst c; simp [ac_laws_eqOutMoveSSS, hr, lo]
    · simp [ac_laws_eqOutMoveSSS, hr, lo, c]
  · have c : a ≠ b := fun e => hr (by rw [e])
    simp [ac_laws_eqOutMoveSSS, c, show ¬ ((a.length : Int) = b.length) by omega, hr]

structure GRewriter where
  stack : Int
  start : Int
  call : List (List GOutPush)
  ret : List (List (List GOutMove))
  inner : List (List GOutMove)
  deriving DecidableEq

@[simp] abbrev GRewriter.v (a : GRewriter) : PV := .agg [.val (.int .i64 a.stack), .val (.int .i64 a.start), lst 1 a.call, lst 1 a.ret, lst 1 a.inner]
instance : Enc GRewriter := ⟨GRewriter.v, 5, fun _ => rfl, fun _ => rfl⟩
@[simp] theorem pv_Rewriter (a : GRewriter) : Enc.pv a = a.v := rfl
@[simp] theorem sz_Rewriter : Enc.sz GRewriter = 5 := rfl
@[simp] theorem ty_Rewriter : (PV.ty (.agg [.any, .any, (.lst 1 (.lst 3 .any)), (.lst 1 (.lst 1 (.lst 2 .any))), (.lst 1 (.lst 2 .any))]) ∘ (Enc.pv : GRewriter → PV)) = Enc.pv := by funext x; simp [PV.tys]
theorem GRewriter.eq_iff (a b : GRewriter) : a = b ↔ a.stack = b.stack ∧ a.start = b.start ∧ a.call = b.call ∧ a.ret = b.ret ∧ a.inner = b.inner := by cases a; cases b; simp
instance : Siz GRewriter := ⟨fun a => Siz.size a.call + Siz.size a.ret + Siz.size a.inner, fun a => Siz.fits a.call ∧ Siz.fits a.ret ∧ Siz.fits a.inner⟩
theorem size_Rewriter (a : GRewriter) : Siz.size a = Siz.size a.call + Siz.size a.ret + Siz.size a.inner := rfl
theorem fits_Rewriter (a : GRewriter) : Siz.fits a = (Siz.fits a.call ∧ Siz.fits a.ret ∧ Siz.fits a.inner) := rfl
@[simp] theorem ev_laws_eqRewriter (a b : GRewriter) (h : Siz.size a ≤ 1048576) : ev fns i_laws_eqRewriter [a.v, b.v] [] = some (bol (decide (a = b)), []) := by
  rw [size_Rewriter] at h
  refine go_laws_eqRewriter (by simp) ?_
  have e_call := ev_laws_eqOutPushSS a.call b.call (by omega)
  have e_ret := ev_laws_eqOutMoveSSS a.ret b.ret (by omega)
  have e_inner := ev_laws_eqOutMoveSS a.inner b.inner (by omega)
  simp [ac_laws_eqRewriter, e_call, e_ret, e_inner]
  cases a; cases b; simp; try grind
end Go.Proofs.Ytegjfjckijmgcaa
