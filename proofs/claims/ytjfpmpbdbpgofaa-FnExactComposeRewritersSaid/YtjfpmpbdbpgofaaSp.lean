/- What is told of copies; printed by a program (gen2.py). -/
import Derived.Test.YtjfpmpbdbpgofaaAw33
import Derived.Test.YtjfpmpbdbpgofaaG0
import Derived.Test.YtjfpmpbdbpgofaaG1
set_option linter.unusedSimpArgs false
set_option linter.unusedVariables false
set_option maxRecDepth 100000
namespace Go.Proofs.Ytjfpmpbdbpgofaa
open Aw
theorem hm_slices_Clone_L_int64 : Try.prog.follows .mixedOrders = true := by kernel_rfl
def t0_slices_Clone_L_int64 : List (FnE Try.prog) := [⟨i_slices_Clone_L_int64, fa_slices_Clone_L_int64, cf_slices_Clone_L_int64⟩]
def f0_slices_Clone_L_int64 : Fns := fnsOf t0_slices_Clone_L_int64
theorem r1_slices_Clone_L_int64 : ev f0_slices_Clone_L_int64 i_slices_Clone_L_int64 [.val (.slice none 0 0)] [] = some (.val (.slice none 0 0), []) := by
  refine ev_go (a := fa_slices_Clone_L_int64) rfl rfl (by simp [fa_slices_Clone_L_int64]) ?_
  simp [fa_slices_Clone_L_int64, ac_slices_Clone_L_int64]
theorem r2_slices_Clone_L_int64 : ev f0_slices_Clone_L_int64 i_slices_Clone_L_int64 [.tl 1 []] [] = some (.own 0 0 0 0, [.row 1 [] 0]) := by
  refine ev_go (a := fa_slices_Clone_L_int64) rfl rfl (by simp [fa_slices_Clone_L_int64]) ?_
  simp [fa_slices_Clone_L_int64, ac_slices_Clone_L_int64, nvRow, PV.bels]
theorem r3_slices_Clone_L_int64 (x : PV) (xs : List PV) (ex : Bool) (hb : (xs.length + 1) * 8 ≤ 140737488355328) (h0 : PV.bels 0 (x :: xs) = true) (hx : ((x :: xs).all fun y => y.okc && decide (y.cells.length = 1)) = true) :
    ev f0_slices_Clone_L_int64 i_slices_Clone_L_int64 [.list 1 (x :: xs) ex] [] = some (.own 0 0 0 (xs.length + 1), [.row 1 (x :: xs) 0]) := by
  refine ev_go (a := fa_slices_Clone_L_int64) rfl rfl (by simp [fa_slices_Clone_L_int64]) ?_
  have h1 := PV.bels_le (Nat.zero_le 1) h0
  simp at hx h0 h1
  simp [fa_slices_Clone_L_int64, ac_slices_Clone_L_int64, hx.1, eq_true hx.2, hb, h0, h1, nvRow, PV.bels]
def fs_slices_Clone_L_int64 : FnA := { fa_slices_Clone_L_int64 with sp := some (spClone 1 8) }
theorem ok_slices_Clone_L_int64 : FnOk Try.prog i_slices_Clone_L_int64 fs_slices_Clone_L_int64 := spClone_ok (chkFn_callable cf_slices_Clone_L_int64) (ev_sound hm_slices_Clone_L_int64 (fnsOf_ok t0_slices_Clone_L_int64) r1_slices_Clone_L_int64) (ev_sound hm_slices_Clone_L_int64 (fnsOf_ok t0_slices_Clone_L_int64) r2_slices_Clone_L_int64) (fun x xs ex h1 h2 h3 => ev_sound hm_slices_Clone_L_int64 (fnsOf_ok t0_slices_Clone_L_int64) (r3_slices_Clone_L_int64 x xs ex h1 h2 h3))
end Go.Proofs.Ytjfpmpbdbpgofaa
