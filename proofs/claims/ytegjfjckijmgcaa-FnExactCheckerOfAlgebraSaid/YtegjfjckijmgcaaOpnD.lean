/- What is read at the laws' types is typed data; printed by a program (opn.py). -/
import Derived.Test.YtegjfjckijmgcaaDat
import Derived.Test.YtegjfjckijmgcaaOpn
import Derived.Test.YtegjfjckijmgcaaRows
set_option linter.unusedVariables false
set_option maxRecDepth 100000
namespace Go.Proofs.Ytegjfjckijmgcaa
open Aw Go.ChangeShapes

theorem opn_Int64 : Opn Try.prog 2 Int := opn_int Try.underlying2
theorem opn_Int64S : Opn Try.prog 42 (List Int) := opn_list Try.underlying42 (by kernel_rfl) (by decide) opn_Int64
theorem opn_Int64SS : Opn Try.prog 25 (List (List Int)) := opn_list Try.underlying25 (by kernel_rfl) (by decide) opn_Int64S
theorem opn_Bool : Opn Try.prog 4 Bool := opn_bool Try.underlying4
theorem opn_BoolS : Opn Try.prog 22 (List Bool) := opn_list Try.underlying22 (by kernel_rfl) (by decide) opn_Bool
theorem opn_Algebra : Opn Try.prog 87 GAlgebra := by
  intro H enc w fuel cs y h
  obtain ⟨xs, n, _, _, hl, hs, hf⟩ := DataW.trod_struct Try.underlying87 h
  have hl : cs.length = 4 := hl.trans (by kernel_rfl)
  match cs, hl with
  | [c0, c1, c2, c3], _ =>
    have q0 : DataW.trod enc Try.prog w 0 (fun _ => true) true n 25 (([c0, c1, c2, c3].drop 0).take (Try.prog.cellsOf 25)) = xs[0]? := hf 0 _ rfl
    rw [List.getElem?_eq_getElem (show 0 < xs.length by rw [hs]; decide)] at q0
    rw [show Try.prog.cellsOf 25 = 1 by kernel_rfl] at q0
    obtain ⟨a0, r0, f0⟩ := opn_Int64SS enc w _ [c0] _ q0
    have q1 : DataW.trod enc Try.prog w 0 (fun _ => true) true n 25 (([c0, c1, c2, c3].drop 1).take (Try.prog.cellsOf 25)) = xs[1]? := hf 1 _ rfl
    rw [List.getElem?_eq_getElem (show 1 < xs.length by rw [hs]; decide)] at q1
    rw [show Try.prog.cellsOf 25 = 1 by kernel_rfl] at q1
    obtain ⟨a1, r1, f1⟩ := opn_Int64SS enc w _ [c1] _ q1
    have q2 : DataW.trod enc Try.prog w 0 (fun _ => true) true n 42 (([c0, c1, c2, c3].drop 2).take (Try.prog.cellsOf 42)) = xs[2]? := hf 2 _ rfl
    rw [List.getElem?_eq_getElem (show 2 < xs.length by rw [hs]; decide)] at q2
    rw [show Try.prog.cellsOf 42 = 1 by kernel_rfl] at q2
    obtain ⟨a2, r2, f2⟩ := opn_Int64S enc w _ [c2] _ q2
    have q3 : DataW.trod enc Try.prog w 0 (fun _ => true) true n 22 (([c0, c1, c2, c3].drop 3).take (Try.prog.cellsOf 22)) = xs[3]? := hf 3 _ rfl
    rw [List.getElem?_eq_getElem (show 3 < xs.length by rw [hs]; decide)] at q3
    rw [show Try.prog.cellsOf 22 = 1 by kernel_rfl] at q3
    obtain ⟨a3, r3, f3⟩ := opn_BoolS enc w _ [c3] _ q3
    exact ⟨⟨a0, a1, a2, a3⟩, Rs.cons (Rs.head r0) (Rs.cons (Rs.head r1) (Rs.cons (Rs.head r2) (Rs.cons (Rs.head r3) (Rs.nil _)))), ⟨f0, f1, f2, f3⟩⟩
end Go.Proofs.Ytegjfjckijmgcaa
