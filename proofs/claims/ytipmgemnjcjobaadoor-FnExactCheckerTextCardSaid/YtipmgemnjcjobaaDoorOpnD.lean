/- What is read at the laws' types is typed data; printed by a program (opn.py). -/
import Derived.Test.YtipmgemnjcjobaaDoorDat
import Derived.Test.YtipmgemnjcjobaaDoorOpn
import Derived.Test.YtipmgemnjcjobaaDoorRows
set_option linter.unusedVariables false
set_option maxRecDepth 100000
namespace Go.Proofs.YtipmgemnjcjobaaDoor
open Aw Go.ChangeShapes

theorem opn_Int64 : Opn Tryd.prog 2 Int := opn_int Tryd.underlying2
theorem opn_String : Opn Tryd.prog 9 ByteArray := opn_str Tryd.underlying9
theorem opn_Link : Opn Tryd.prog 171 GLink := by
  intro H enc w fuel cs y h
  obtain ⟨xs, n, _, _, hl, hs, hf⟩ := DataW.trod_struct Tryd.underlying171 h
  have hl : cs.length = 4 := hl.trans (by kernel_rfl)
  match cs, hl with
  | [c0, c1, c2, c3], _ =>
    have q0 : DataW.trod enc Tryd.prog w 0 (fun _ => true) true n 2 (([c0, c1, c2, c3].drop 0).take (Tryd.prog.cellsOf 2)) = xs[0]? := hf 0 _ rfl
    rw [List.getElem?_eq_getElem (show 0 < xs.length by rw [hs]; decide)] at q0
    rw [show Tryd.prog.cellsOf 2 = 1 by kernel_rfl] at q0
    obtain ⟨a0, r0, f0⟩ := opn_Int64 enc w _ [c0] _ q0
    have q1 : DataW.trod enc Tryd.prog w 0 (fun _ => true) true n 2 (([c0, c1, c2, c3].drop 1).take (Tryd.prog.cellsOf 2)) = xs[1]? := hf 1 _ rfl
    rw [List.getElem?_eq_getElem (show 1 < xs.length by rw [hs]; decide)] at q1
    rw [show Tryd.prog.cellsOf 2 = 1 by kernel_rfl] at q1
    obtain ⟨a1, r1, f1⟩ := opn_Int64 enc w _ [c1] _ q1
    have q2 : DataW.trod enc Tryd.prog w 0 (fun _ => true) true n 9 (([c0, c1, c2, c3].drop 2).take (Tryd.prog.cellsOf 9)) = xs[2]? := hf 2 _ rfl
    rw [List.getElem?_eq_getElem (show 2 < xs.length by rw [hs]; decide)] at q2
    rw [show Tryd.prog.cellsOf 9 = 1 by kernel_rfl] at q2
    obtain ⟨a2, r2, f2⟩ := opn_String enc w _ [c2] _ q2
    have q3 : DataW.trod enc Tryd.prog w 0 (fun _ => true) true n 2 (([c0, c1, c2, c3].drop 3).take (Tryd.prog.cellsOf 2)) = xs[3]? := hf 3 _ rfl
    rw [List.getElem?_eq_getElem (show 3 < xs.length by rw [hs]; decide)] at q3
    rw [show Tryd.prog.cellsOf 2 = 1 by kernel_rfl] at q3
    obtain ⟨a3, r3, f3⟩ := opn_Int64 enc w _ [c3] _ q3
    exact ⟨⟨a0, a1, a2, a3⟩, Rs.cons (Rs.head r0) (Rs.cons (Rs.head r1) (Rs.cons (Rs.head r2) (Rs.cons (Rs.head r3) (Rs.nil _)))), f2⟩
theorem opn_LinkS : Opn Tryd.prog 106 (List GLink) := opn_list Tryd.underlying106 (by kernel_rfl) (by decide) opn_Link
theorem opn_Module : Opn Tryd.prog 108 GModule := by
  intro H enc w fuel cs y h
  obtain ⟨xs, n, _, _, hl, hs, hf⟩ := DataW.trod_struct Tryd.underlying108 h
  have hl : cs.length = 2 := hl.trans (by kernel_rfl)
  match cs, hl with
  | [c0, c1], _ =>
    have q0 : DataW.trod enc Tryd.prog w 0 (fun _ => true) true n 2 (([c0, c1].drop 0).take (Tryd.prog.cellsOf 2)) = xs[0]? := hf 0 _ rfl
    rw [List.getElem?_eq_getElem (show 0 < xs.length by rw [hs]; decide)] at q0
    rw [show Tryd.prog.cellsOf 2 = 1 by kernel_rfl] at q0
    obtain ⟨a0, r0, f0⟩ := opn_Int64 enc w _ [c0] _ q0
    have q1 : DataW.trod enc Tryd.prog w 0 (fun _ => true) true n 106 (([c0, c1].drop 1).take (Tryd.prog.cellsOf 106)) = xs[1]? := hf 1 _ rfl
    rw [List.getElem?_eq_getElem (show 1 < xs.length by rw [hs]; decide)] at q1
    rw [show Tryd.prog.cellsOf 106 = 1 by kernel_rfl] at q1
    obtain ⟨a1, r1, f1⟩ := opn_LinkS enc w _ [c1] _ q1
    exact ⟨⟨a0, a1⟩, Rs.cons (Rs.head r0) (Rs.cons (Rs.head r1) (Rs.nil _)), f1⟩
theorem opn_ModuleS : Opn Tryd.prog 29 (List GModule) := opn_list Tryd.underlying29 (by kernel_rfl) (by decide) opn_Module
theorem opn_Program : Opn Tryd.prog 31 GProgram := by
  intro H enc w fuel cs y h
  obtain ⟨xs, n, _, _, hl, hs, hf⟩ := DataW.trod_struct Tryd.underlying31 h
  have hl : cs.length = 1 := hl.trans (by kernel_rfl)
  match cs, hl with
  | [c0], _ =>
    have q0 : DataW.trod enc Tryd.prog w 0 (fun _ => true) true n 29 (([c0].drop 0).take (Tryd.prog.cellsOf 29)) = xs[0]? := hf 0 _ rfl
    rw [List.getElem?_eq_getElem (show 0 < xs.length by rw [hs]; decide)] at q0
    rw [show Tryd.prog.cellsOf 29 = 1 by kernel_rfl] at q0
    obtain ⟨a0, r0, f0⟩ := opn_ModuleS enc w _ [c0] _ q0
    exact ⟨⟨a0⟩, Rs.cons (Rs.head r0) (Rs.nil _), f0⟩
theorem opn_Bool : Opn Tryd.prog 4 Bool := opn_bool Tryd.underlying4
theorem opn_BoolS : Opn Tryd.prog 40 (List Bool) := opn_list Tryd.underlying40 (by kernel_rfl) (by decide) opn_Bool
theorem opn_Push : Opn Tryd.prog 159 GPush := by
  intro H enc w fuel cs y h
  obtain ⟨xs, n, _, _, hl, hs, hf⟩ := DataW.trod_struct Tryd.underlying159 h
  have hl : cs.length = 2 := hl.trans (by kernel_rfl)
  match cs, hl with
  | [c0, c1], _ =>
    have q0 : DataW.trod enc Tryd.prog w 0 (fun _ => true) true n 2 (([c0, c1].drop 0).take (Tryd.prog.cellsOf 2)) = xs[0]? := hf 0 _ rfl
    rw [List.getElem?_eq_getElem (show 0 < xs.length by rw [hs]; decide)] at q0
    rw [show Tryd.prog.cellsOf 2 = 1 by kernel_rfl] at q0
    obtain ⟨a0, r0, f0⟩ := opn_Int64 enc w _ [c0] _ q0
    have q1 : DataW.trod enc Tryd.prog w 0 (fun _ => true) true n 2 (([c0, c1].drop 1).take (Tryd.prog.cellsOf 2)) = xs[1]? := hf 1 _ rfl
    rw [List.getElem?_eq_getElem (show 1 < xs.length by rw [hs]; decide)] at q1
    rw [show Tryd.prog.cellsOf 2 = 1 by kernel_rfl] at q1
    obtain ⟨a1, r1, f1⟩ := opn_Int64 enc w _ [c1] _ q1
    exact ⟨⟨a0, a1⟩, Rs.cons (Rs.head r0) (Rs.cons (Rs.head r1) (Rs.nil _)), trivial⟩
theorem opn_PushS : Opn Tryd.prog 129 (List GPush) := opn_list Tryd.underlying129 (by kernel_rfl) (by decide) opn_Push
theorem opn_PushSS : Opn Tryd.prog 41 (List (List GPush)) := opn_list Tryd.underlying41 (by kernel_rfl) (by decide) opn_PushS
theorem opn_Int64S : Opn Tryd.prog 84 (List Int) := opn_list Tryd.underlying84 (by kernel_rfl) (by decide) opn_Int64
theorem opn_Int64SS : Opn Tryd.prog 43 (List (List Int)) := opn_list Tryd.underlying43 (by kernel_rfl) (by decide) opn_Int64S
theorem opn_Int64SSS : Opn Tryd.prog 42 (List (List (List Int))) := opn_list Tryd.underlying42 (by kernel_rfl) (by decide) opn_Int64SS
theorem opn_Checker : Opn Tryd.prog 45 GChecker := by
  intro H enc w fuel cs y h
  obtain ⟨xs, n, _, _, hl, hs, hf⟩ := DataW.trod_struct Tryd.underlying45 h
  have hl : cs.length = 6 := hl.trans (by kernel_rfl)
  match cs, hl with
  | [c0, c1, c2, c3, c4, c5], _ =>
    have q0 : DataW.trod enc Tryd.prog w 0 (fun _ => true) true n 2 (([c0, c1, c2, c3, c4, c5].drop 0).take (Tryd.prog.cellsOf 2)) = xs[0]? := hf 0 _ rfl
    rw [List.getElem?_eq_getElem (show 0 < xs.length by rw [hs]; decide)] at q0
    rw [show Tryd.prog.cellsOf 2 = 1 by kernel_rfl] at q0
    obtain ⟨a0, r0, f0⟩ := opn_Int64 enc w _ [c0] _ q0
    have q1 : DataW.trod enc Tryd.prog w 0 (fun _ => true) true n 2 (([c0, c1, c2, c3, c4, c5].drop 1).take (Tryd.prog.cellsOf 2)) = xs[1]? := hf 1 _ rfl
    rw [List.getElem?_eq_getElem (show 1 < xs.length by rw [hs]; decide)] at q1
    rw [show Tryd.prog.cellsOf 2 = 1 by kernel_rfl] at q1
    obtain ⟨a1, r1, f1⟩ := opn_Int64 enc w _ [c1] _ q1
    have q2 : DataW.trod enc Tryd.prog w 0 (fun _ => true) true n 40 (([c0, c1, c2, c3, c4, c5].drop 2).take (Tryd.prog.cellsOf 40)) = xs[2]? := hf 2 _ rfl
    rw [List.getElem?_eq_getElem (show 2 < xs.length by rw [hs]; decide)] at q2
    rw [show Tryd.prog.cellsOf 40 = 1 by kernel_rfl] at q2
    obtain ⟨a2, r2, f2⟩ := opn_BoolS enc w _ [c2] _ q2
    have q3 : DataW.trod enc Tryd.prog w 0 (fun _ => true) true n 41 (([c0, c1, c2, c3, c4, c5].drop 3).take (Tryd.prog.cellsOf 41)) = xs[3]? := hf 3 _ rfl
    rw [List.getElem?_eq_getElem (show 3 < xs.length by rw [hs]; decide)] at q3
    rw [show Tryd.prog.cellsOf 41 = 1 by kernel_rfl] at q3
    obtain ⟨a3, r3, f3⟩ := opn_PushSS enc w _ [c3] _ q3
    have q4 : DataW.trod enc Tryd.prog w 0 (fun _ => true) true n 42 (([c0, c1, c2, c3, c4, c5].drop 4).take (Tryd.prog.cellsOf 42)) = xs[4]? := hf 4 _ rfl
    rw [List.getElem?_eq_getElem (show 4 < xs.length by rw [hs]; decide)] at q4
    rw [show Tryd.prog.cellsOf 42 = 1 by kernel_rfl] at q4
    obtain ⟨a4, r4, f4⟩ := opn_Int64SSS enc w _ [c4] _ q4
    have q5 : DataW.trod enc Tryd.prog w 0 (fun _ => true) true n 43 (([c0, c1, c2, c3, c4, c5].drop 5).take (Tryd.prog.cellsOf 43)) = xs[5]? := hf 5 _ rfl
    rw [List.getElem?_eq_getElem (show 5 < xs.length by rw [hs]; decide)] at q5
    rw [show Tryd.prog.cellsOf 43 = 1 by kernel_rfl] at q5
    obtain ⟨a5, r5, f5⟩ := opn_Int64SS enc w _ [c5] _ q5
    exact ⟨⟨a0, a1, a2, a3, a4, a5⟩, Rs.cons (Rs.head r0) (Rs.cons (Rs.head r1) (Rs.cons (Rs.head r2) (Rs.cons (Rs.head r3) (Rs.cons (Rs.head r4) (Rs.cons (Rs.head r5) (Rs.nil _)))))), ⟨f2, f3, f4, f5⟩⟩
end Go.Proofs.YtipmgemnjcjobaaDoor
