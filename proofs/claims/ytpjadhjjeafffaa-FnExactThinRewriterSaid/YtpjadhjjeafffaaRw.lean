/- The empty rewriter, compared, marked and held. -/
import Derived.Test.YtpjadhjjeafffaaSmall
set_option linter.unusedVariables false
set_option linter.unusedSimpArgs false
set_option maxRecDepth 100000
namespace Go.Proofs.Ytpjadhjjeafffaa
open Aw

abbrev zRw : PV := .agg [.val (.int .i64 0), .val (.int .i64 0), .val (.slice none 0 0), .val (.slice none 0 0), .val (.slice none 0 0)]
abbrev zObj : List AObj := [.row 5 [zRw] 0, .row 5 [zRw] 0]
abbrev zObj3 : List AObj := [.row 5 [zRw] 0, .row 5 [zRw] 0, .row 5 [zRw] 0]
/-- A number, and nothing behind. -/
def isI (n : Int) (r : Option (PV × List AObj)) : Bool := match r with
  | some (.val (.int .i64 m), []) => decide (m = n)
  | _ => false
theorem isI_eq {n : Int} {r : Option (PV × List AObj)} (h : isI n r = true) : r = some (i64 n, []) := by
  unfold isI at h
  split at h
  · simp at h; subst h; rfl
  · cases h
theorem k_eq_zRw : isT (evF fns rtB 200 i_laws_eqRewriter [zRw, zRw] []) = true := by decide +kernel
theorem ev_eq_zRw : ev fns i_laws_eqRewriter [zRw, zRw] [] = some (bol true, []) := ev_of_evF (isT_eq k_eq_zRw)
theorem k_held_zRw : isI 1 (evF fns rtB 200 i_laws_heldRewriter [zRw, i64 1] []) = true := by decide +kernel
theorem ev_held_zRw : ev fns i_laws_heldRewriter [zRw, i64 1] [] = some (i64 1, []) := ev_of_evF (isI_eq k_held_zRw)
theorem ev_mark_1 : ev fns i_laws_markOutPushSS [.val (.slice none 0 0), i64 1] zObj3 = some (i64 1, zObj3) := by
  refine go_laws_markOutPushSS (by simp) ?_
  simp [ac_laws_markOutPushSS, l_laws_markOutPushSS_0, lb_laws_markOutPushSS_0]
theorem ev_mark_2 : ev fns i_laws_markOutMoveSSS [.val (.slice none 0 0), i64 1] zObj3 = some (i64 1, zObj3) := by
  refine go_laws_markOutMoveSSS (by simp) ?_
  simp [ac_laws_markOutMoveSSS, l_laws_markOutMoveSSS_0, lb_laws_markOutMoveSSS_0]
theorem ev_mark_3 : ev fns i_laws_markOutMoveSS [.val (.slice none 0 0), i64 1] zObj3 = some (i64 1, zObj3) := by
  refine go_laws_markOutMoveSS (by simp) ?_
  simp [ac_laws_markOutMoveSS, l_laws_markOutMoveSS_0, lb_laws_markOutMoveSS_0]
theorem ev_mark_zRw : ev fns i_laws_markRewriter [zRw, i64 1] zObj = some (i64 1, zObj) := by
  have h1 := ev_mark_1
  have h2 := ev_mark_2
  have h3 := ev_mark_3
  refine go_laws_markRewriter (by simp) ?_
  simp [ac_laws_markRewriter, h1, h2, h3]
end Go.Proofs.Ytpjadhjjeafffaa
