/- What is read at the laws' types is typed data; printed by a program (opn.py). -/
import Derived.Test.YtoliadfdklfmfaaDat
import Derived.Test.YtoliadfdklfmfaaOpn
import Derived.Test.YtoliadfdklfmfaaRows
set_option linter.unusedVariables false
set_option maxRecDepth 100000
namespace Go.Proofs.Ytoliadfdklfmfaa
open Aw Go.ChangeShapes

theorem opn_Int64 : Opn Try.prog 2 Int := opn_int Try.underlying2
theorem opn_Bool : Opn Try.prog 4 Bool := opn_bool Try.underlying4
theorem opn_BoolS : Opn Try.prog 22 (List Bool) := opn_list Try.underlying22 (by kernel_rfl) (by decide) opn_Bool
theorem opn_Push : Opn Try.prog 109 GPush := by
  intro H enc w fuel cs y h
  obtain ⟨xs, n, _, _, hl, hs, hf⟩ := DataW.trod_struct Try.underlying109 h
  have hl : cs.length = 2 := hl.trans (by kernel_rfl)
  match cs, hl with
  | [c0, c1], _ =>
    have q0 : DataW.trod enc Try.prog w 0 (fun _ => true) true n 2 (([c0, c1].drop 0).take (Try.prog.cellsOf 2)) = xs[0]? := hf 0 _ rfl
    rw [List.getElem?_eq_getElem (show 0 < xs.length by rw [hs]; decide)] at q0
    rw [show Try.prog.cellsOf 2 = 1 by kernel_rfl] at q0
    obtain ⟨a0, r0, f0⟩ := opn_Int64 enc w _ [c0] _ q0
    have q1 : DataW.trod enc Try.prog w 0 (fun _ => true) true n 2 (([c0, c1].drop 1).take (Try.prog.cellsOf 2)) = xs[1]? := hf 1 _ rfl
    rw [List.getElem?_eq_getElem (show 1 < xs.length by rw [hs]; decide)] at q1
    rw [show Try.prog.cellsOf 2 = 1 by kernel_rfl] at q1
    obtain ⟨a1, r1, f1⟩ := opn_Int64 enc w _ [c1] _ q1
    exact ⟨⟨a0, a1⟩, Rs.cons (Rs.head r0) (Rs.cons (Rs.head r1) (Rs.nil _)), trivial⟩
theorem opn_PushS : Opn Try.prog 88 (List GPush) := opn_list Try.underlying88 (by kernel_rfl) (by decide) opn_Push
theorem opn_PushSS : Opn Try.prog 23 (List (List GPush)) := opn_list Try.underlying23 (by kernel_rfl) (by decide) opn_PushS
theorem opn_Int64S : Opn Try.prog 29 (List Int) := opn_list Try.underlying29 (by kernel_rfl) (by decide) opn_Int64
theorem opn_Int64SS : Opn Try.prog 25 (List (List Int)) := opn_list Try.underlying25 (by kernel_rfl) (by decide) opn_Int64S
theorem opn_Int64SSS : Opn Try.prog 24 (List (List (List Int))) := opn_list Try.underlying24 (by kernel_rfl) (by decide) opn_Int64SS
theorem opn_Checker : Opn Try.prog 27 GChecker := by
  intro H enc w fuel cs y h
  obtain ⟨xs, n, _, _, hl, hs, hf⟩ := DataW.trod_struct Try.underlying27 h
  have hl : cs.length = 6 := hl.trans (by kernel_rfl)
  match cs, hl with
  | [c0, c1, c2, c3, c4, c5], _ =>
    have q0 : DataW.trod enc Try.prog w 0 (fun _ => true) true n 2 (([c0, c1, c2, c3, c4, c5].drop 0).take (Try.prog.cellsOf 2)) = xs[0]? := hf 0 _ rfl
    rw [List.getElem?_eq_getElem (show 0 < xs.length by rw [hs]; decide)] at q0
    rw [show Try.prog.cellsOf 2 = 1 by kernel_rfl] at q0
    obtain ⟨a0, r0, f0⟩ := opn_Int64 enc w _ [c0] _ q0
    have q1 : DataW.trod enc Try.prog w 0 (fun _ => true) true n 2 (([c0, c1, c2, c3, c4, c5].drop 1).take (Try.prog.cellsOf 2)) = xs[1]? := hf 1 _ rfl
    rw [List.getElem?_eq_getElem (show 1 < xs.length by rw [hs]; decide)] at q1
    rw [show Try.prog.cellsOf 2 = 1 by kernel_rfl] at q1
    obtain ⟨a1, r1, f1⟩ := opn_Int64 enc w _ [c1] _ q1
    have q2 : DataW.trod enc Try.prog w 0 (fun _ => true) true n 22 (([c0, c1, c2, c3, c4, c5].drop 2).take (Try.prog.cellsOf 22)) = xs[2]? := hf 2 _ rfl
    rw [List.getElem?_eq_getElem (show 2 < xs.length by rw [hs]; decide)] at q2
    rw [show Try.prog.cellsOf 22 = 1 by kernel_rfl] at q2
    obtain ⟨a2, r2, f2⟩ := opn_BoolS enc w _ [c2] _ q2
    have q3 : DataW.trod enc Try.prog w 0 (fun _ => true) true n 23 (([c0, c1, c2, c3, c4, c5].drop 3).take (Try.prog.cellsOf 23)) = xs[3]? := hf 3 _ rfl
    rw [List.getElem?_eq_getElem (show 3 < xs.length by rw [hs]; decide)] at q3
    rw [show Try.prog.cellsOf 23 = 1 by kernel_rfl] at q3
    obtain ⟨a3, r3, f3⟩ := opn_PushSS enc w _ [c3] _ q3
    have q4 : DataW.trod enc Try.prog w 0 (fun _ => true) true n 24 (([c0, c1, c2, c3, c4, c5].drop 4).take (Try.prog.cellsOf 24)) = xs[4]? := hf 4 _ rfl
    rw [List.getElem?_eq_getElem (show 4 < xs.length by rw [hs]; decide)] at q4
    rw [show Try.prog.cellsOf 24 = 1 by kernel_rfl] at q4
    obtain ⟨a4, r4, f4⟩ := opn_Int64SSS enc w _ [c4] _ q4
    have q5 : DataW.trod enc Try.prog w 0 (fun _ => true) true n 25 (([c0, c1, c2, c3, c4, c5].drop 5).take (Try.prog.cellsOf 25)) = xs[5]? := hf 5 _ rfl
    rw [List.getElem?_eq_getElem (show 5 < xs.length by rw [hs]; decide)] at q5
    rw [show Try.prog.cellsOf 25 = 1 by kernel_rfl] at q5
    obtain ⟨a5, r5, f5⟩ := opn_Int64SS enc w _ [c5] _ q5
    exact ⟨⟨a0, a1, a2, a3, a4, a5⟩, Rs.cons (Rs.head r0) (Rs.cons (Rs.head r1) (Rs.cons (Rs.head r2) (Rs.cons (Rs.head r3) (Rs.cons (Rs.head r4) (Rs.cons (Rs.head r5) (Rs.nil _)))))), ⟨f2, f3, f4, f5⟩⟩
end Go.Proofs.Ytoliadfdklfmfaa
