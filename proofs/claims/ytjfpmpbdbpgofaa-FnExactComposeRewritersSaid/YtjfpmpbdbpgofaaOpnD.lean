/- What is read at the laws' types is typed data; printed by a program (opn.py). -/
import Derived.Test.YtjfpmpbdbpgofaaDat
import Derived.Test.YtjfpmpbdbpgofaaOpn
import Derived.Test.YtjfpmpbdbpgofaaRows
set_option linter.unusedVariables false
set_option maxRecDepth 100000
namespace Go.Proofs.Ytjfpmpbdbpgofaa
open Aw Go.ChangeShapes

theorem opn_Int64 : Opn Try.prog 2 Int := opn_int Try.underlying2
theorem opn_String : Opn Try.prog 9 ByteArray := opn_str Try.underlying9
theorem opn_OutPush : Opn Try.prog 359 GOutPush := by
  intro H enc w fuel cs y h
  obtain ⟨xs, n, _, _, hl, hs, hf⟩ := DataW.trod_struct Try.underlying359 h
  have hl : cs.length = 3 := hl.trans (by kernel_rfl)
  match cs, hl with
  | [c0, c1, c2], _ =>
    have q0 : DataW.trod enc Try.prog w 0 (fun _ => true) true n 2 (([c0, c1, c2].drop 0).take (Try.prog.cellsOf 2)) = xs[0]? := hf 0 _ rfl
    rw [List.getElem?_eq_getElem (show 0 < xs.length by rw [hs]; decide)] at q0
    rw [show Try.prog.cellsOf 2 = 1 by kernel_rfl] at q0
    obtain ⟨a0, r0, f0⟩ := opn_Int64 enc w _ [c0] _ q0
    have q1 : DataW.trod enc Try.prog w 0 (fun _ => true) true n 2 (([c0, c1, c2].drop 1).take (Try.prog.cellsOf 2)) = xs[1]? := hf 1 _ rfl
    rw [List.getElem?_eq_getElem (show 1 < xs.length by rw [hs]; decide)] at q1
    rw [show Try.prog.cellsOf 2 = 1 by kernel_rfl] at q1
    obtain ⟨a1, r1, f1⟩ := opn_Int64 enc w _ [c1] _ q1
    have q2 : DataW.trod enc Try.prog w 0 (fun _ => true) true n 9 (([c0, c1, c2].drop 2).take (Try.prog.cellsOf 9)) = xs[2]? := hf 2 _ rfl
    rw [List.getElem?_eq_getElem (show 2 < xs.length by rw [hs]; decide)] at q2
    rw [show Try.prog.cellsOf 9 = 1 by kernel_rfl] at q2
    obtain ⟨a2, r2, f2⟩ := opn_String enc w _ [c2] _ q2
    exact ⟨⟨a0, a1, a2⟩, Rs.cons (Rs.head r0) (Rs.cons (Rs.head r1) (Rs.cons (Rs.head r2) (Rs.nil _))), f2⟩
theorem opn_OutPushS : Opn Try.prog 291 (List GOutPush) := opn_list Try.underlying291 (by kernel_rfl) (by decide) opn_OutPush
theorem opn_OutPushSS : Opn Try.prog 73 (List (List GOutPush)) := opn_list Try.underlying73 (by kernel_rfl) (by decide) opn_OutPushS
theorem opn_OutMove : Opn Try.prog 361 GOutMove := by
  intro H enc w fuel cs y h
  obtain ⟨xs, n, _, _, hl, hs, hf⟩ := DataW.trod_struct Try.underlying361 h
  have hl : cs.length = 2 := hl.trans (by kernel_rfl)
  match cs, hl with
  | [c0, c1], _ =>
    have q0 : DataW.trod enc Try.prog w 0 (fun _ => true) true n 2 (([c0, c1].drop 0).take (Try.prog.cellsOf 2)) = xs[0]? := hf 0 _ rfl
    rw [List.getElem?_eq_getElem (show 0 < xs.length by rw [hs]; decide)] at q0
    rw [show Try.prog.cellsOf 2 = 1 by kernel_rfl] at q0
    obtain ⟨a0, r0, f0⟩ := opn_Int64 enc w _ [c0] _ q0
    have q1 : DataW.trod enc Try.prog w 0 (fun _ => true) true n 9 (([c0, c1].drop 1).take (Try.prog.cellsOf 9)) = xs[1]? := hf 1 _ rfl
    rw [List.getElem?_eq_getElem (show 1 < xs.length by rw [hs]; decide)] at q1
    rw [show Try.prog.cellsOf 9 = 1 by kernel_rfl] at q1
    obtain ⟨a1, r1, f1⟩ := opn_String enc w _ [c1] _ q1
    exact ⟨⟨a0, a1⟩, Rs.cons (Rs.head r0) (Rs.cons (Rs.head r1) (Rs.nil _)), f1⟩
theorem opn_OutMoveS : Opn Try.prog 293 (List GOutMove) := opn_list Try.underlying293 (by kernel_rfl) (by decide) opn_OutMove
theorem opn_OutMoveSS : Opn Try.prog 75 (List (List GOutMove)) := opn_list Try.underlying75 (by kernel_rfl) (by decide) opn_OutMoveS
theorem opn_OutMoveSSS : Opn Try.prog 74 (List (List (List GOutMove))) := opn_list Try.underlying74 (by kernel_rfl) (by decide) opn_OutMoveSS
theorem opn_Rewriter : Opn Try.prog 77 GRewriter := by
  intro H enc w fuel cs y h
  obtain ⟨xs, n, _, _, hl, hs, hf⟩ := DataW.trod_struct Try.underlying77 h
  have hl : cs.length = 5 := hl.trans (by kernel_rfl)
  match cs, hl with
  | [c0, c1, c2, c3, c4], _ =>
    have q0 : DataW.trod enc Try.prog w 0 (fun _ => true) true n 2 (([c0, c1, c2, c3, c4].drop 0).take (Try.prog.cellsOf 2)) = xs[0]? := hf 0 _ rfl
    rw [List.getElem?_eq_getElem (show 0 < xs.length by rw [hs]; decide)] at q0
    rw [show Try.prog.cellsOf 2 = 1 by kernel_rfl] at q0
    obtain ⟨a0, r0, f0⟩ := opn_Int64 enc w _ [c0] _ q0
    have q1 : DataW.trod enc Try.prog w 0 (fun _ => true) true n 2 (([c0, c1, c2, c3, c4].drop 1).take (Try.prog.cellsOf 2)) = xs[1]? := hf 1 _ rfl
    rw [List.getElem?_eq_getElem (show 1 < xs.length by rw [hs]; decide)] at q1
    rw [show Try.prog.cellsOf 2 = 1 by kernel_rfl] at q1
    obtain ⟨a1, r1, f1⟩ := opn_Int64 enc w _ [c1] _ q1
    have q2 : DataW.trod enc Try.prog w 0 (fun _ => true) true n 73 (([c0, c1, c2, c3, c4].drop 2).take (Try.prog.cellsOf 73)) = xs[2]? := hf 2 _ rfl
    rw [List.getElem?_eq_getElem (show 2 < xs.length by rw [hs]; decide)] at q2
    rw [show Try.prog.cellsOf 73 = 1 by kernel_rfl] at q2
    obtain ⟨a2, r2, f2⟩ := opn_OutPushSS enc w _ [c2] _ q2
    have q3 : DataW.trod enc Try.prog w 0 (fun _ => true) true n 74 (([c0, c1, c2, c3, c4].drop 3).take (Try.prog.cellsOf 74)) = xs[3]? := hf 3 _ rfl
    rw [List.getElem?_eq_getElem (show 3 < xs.length by rw [hs]; decide)] at q3
    rw [show Try.prog.cellsOf 74 = 1 by kernel_rfl] at q3
    obtain ⟨a3, r3, f3⟩ := opn_OutMoveSSS enc w _ [c3] _ q3
    have q4 : DataW.trod enc Try.prog w 0 (fun _ => true) true n 75 (([c0, c1, c2, c3, c4].drop 4).take (Try.prog.cellsOf 75)) = xs[4]? := hf 4 _ rfl
    rw [List.getElem?_eq_getElem (show 4 < xs.length by rw [hs]; decide)] at q4
    rw [show Try.prog.cellsOf 75 = 1 by kernel_rfl] at q4
    obtain ⟨a4, r4, f4⟩ := opn_OutMoveSS enc w _ [c4] _ q4
    exact ⟨⟨a0, a1, a2, a3, a4⟩, Rs.cons (Rs.head r0) (Rs.cons (Rs.head r1) (Rs.cons (Rs.head r2) (Rs.cons (Rs.head r3) (Rs.cons (Rs.head r4) (Rs.nil _))))), ⟨f2, f3, f4⟩⟩
end Go.Proofs.Ytjfpmpbdbpgofaa
