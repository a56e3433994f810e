/- What is read at the laws' types is typed data; printed by a program (opn.py). -/
import Derived.Test.YtlolldjkahkbfaaDat
import Derived.Test.YtlolldjkahkbfaaOpn
import Derived.Test.YtlolldjkahkbfaaRows
set_option linter.unusedVariables false
set_option maxRecDepth 100000
namespace Go.Proofs.Ytlolldjkahkbfaa
open Aw Go.ChangeShapes

theorem opn_Int64 : Opn Try.prog 2 Int := opn_int Try.underlying2
theorem opn_Int64S : Opn Try.prog 32 (List Int) := opn_list Try.underlying32 (by kernel_rfl) (by decide) opn_Int64
theorem opn_Bool : Opn Try.prog 4 Bool := opn_bool Try.underlying4
theorem opn_BoolS : Opn Try.prog 24 (List Bool) := opn_list Try.underlying24 (by kernel_rfl) (by decide) opn_Bool
theorem opn_Push : Opn Try.prog 386 GPush := by
  intro H enc w fuel cs y h
  obtain ⟨xs, n, _, _, hl, hs, hf⟩ := DataW.trod_struct Try.underlying386 h
  have hl : cs.length = 2 := hl.trans (by kernel_rfl)
  match cs, hl with
  | [c0, c1], _ =>
    have q0 : DataW.trod enc Try.prog w 0 (fun _ => true) true n 2 (([c0, c1].drop 0).take (Try.prog.cellsOf 2)) = xs[0]? := hf 0 _ rfl
    rw [List.getElem?_eq_getElem (show 0 < xs.length by rw [hs]; decide)] at q0
    rw [show Try.prog.cellsOf 2 = 1 by kernel_rfl] at q0
    obtain ⟨a0, r0, f0⟩ := opn_Int64 enc w _ [c0] _ q0
    have q1 : DataW.trod enc Try.prog w 0 (fun _ => true) true n 2 (([c0, c1].drop 1).take (Try.prog.cellsOf 2)) = xs[1]? := hf 1 _ rfl
    rw [List.getElem?_eq_getElem (show 1 < xs.length by rw [hs]; decide)] at q1
    rw [show Try.prog.cellsOf 2 = 1 by kernel_rfl] at q1
    obtain ⟨a1, r1, f1⟩ := opn_Int64 enc w _ [c1] _ q1
    exact ⟨⟨a0, a1⟩, Rs.cons (Rs.head r0) (Rs.cons (Rs.head r1) (Rs.nil _)), trivial⟩
theorem opn_PushS : Opn Try.prog 369 (List GPush) := opn_list Try.underlying369 (by kernel_rfl) (by decide) opn_Push
theorem opn_PushSS : Opn Try.prog 318 (List (List GPush)) := opn_list Try.underlying318 (by kernel_rfl) (by decide) opn_PushS
theorem opn_PushSSS : Opn Try.prog 91 (List (List (List GPush))) := opn_list Try.underlying91 (by kernel_rfl) (by decide) opn_PushSS
theorem opn_Int64SS : Opn Try.prog 27 (List (List Int)) := opn_list Try.underlying27 (by kernel_rfl) (by decide) opn_Int64S
theorem opn_Int64SSS : Opn Try.prog 26 (List (List (List Int))) := opn_list Try.underlying26 (by kernel_rfl) (by decide) opn_Int64SS
theorem opn_Int64SSSS : Opn Try.prog 92 (List (List (List (List Int)))) := opn_list Try.underlying92 (by kernel_rfl) (by decide) opn_Int64SSS
theorem opn_Choices : Opn Try.prog 94 GChoices := by
  intro H enc w fuel cs y h
  obtain ⟨xs, n, _, _, hl, hs, hf⟩ := DataW.trod_struct Try.underlying94 h
  have hl : cs.length = 6 := hl.trans (by kernel_rfl)
  match cs, hl with
  | [c0, c1, c2, c3, c4, c5], _ =>
    have q0 : DataW.trod enc Try.prog w 0 (fun _ => true) true n 2 (([c0, c1, c2, c3, c4, c5].drop 0).take (Try.prog.cellsOf 2)) = xs[0]? := hf 0 _ rfl
    rw [List.getElem?_eq_getElem (show 0 < xs.length by rw [hs]; decide)] at q0
    rw [show Try.prog.cellsOf 2 = 1 by kernel_rfl] at q0
    obtain ⟨a0, r0, f0⟩ := opn_Int64 enc w _ [c0] _ q0
    have q1 : DataW.trod enc Try.prog w 0 (fun _ => true) true n 32 (([c0, c1, c2, c3, c4, c5].drop 1).take (Try.prog.cellsOf 32)) = xs[1]? := hf 1 _ rfl
    rw [List.getElem?_eq_getElem (show 1 < xs.length by rw [hs]; decide)] at q1
    rw [show Try.prog.cellsOf 32 = 1 by kernel_rfl] at q1
    obtain ⟨a1, r1, f1⟩ := opn_Int64S enc w _ [c1] _ q1
    have q2 : DataW.trod enc Try.prog w 0 (fun _ => true) true n 24 (([c0, c1, c2, c3, c4, c5].drop 2).take (Try.prog.cellsOf 24)) = xs[2]? := hf 2 _ rfl
    rw [List.getElem?_eq_getElem (show 2 < xs.length by rw [hs]; decide)] at q2
    rw [show Try.prog.cellsOf 24 = 1 by kernel_rfl] at q2
    obtain ⟨a2, r2, f2⟩ := opn_BoolS enc w _ [c2] _ q2
    have q3 : DataW.trod enc Try.prog w 0 (fun _ => true) true n 91 (([c0, c1, c2, c3, c4, c5].drop 3).take (Try.prog.cellsOf 91)) = xs[3]? := hf 3 _ rfl
    rw [List.getElem?_eq_getElem (show 3 < xs.length by rw [hs]; decide)] at q3
    rw [show Try.prog.cellsOf 91 = 1 by kernel_rfl] at q3
    obtain ⟨a3, r3, f3⟩ := opn_PushSSS enc w _ [c3] _ q3
    have q4 : DataW.trod enc Try.prog w 0 (fun _ => true) true n 92 (([c0, c1, c2, c3, c4, c5].drop 4).take (Try.prog.cellsOf 92)) = xs[4]? := hf 4 _ rfl
    rw [List.getElem?_eq_getElem (show 4 < xs.length by rw [hs]; decide)] at q4
    rw [show Try.prog.cellsOf 92 = 1 by kernel_rfl] at q4
    obtain ⟨a4, r4, f4⟩ := opn_Int64SSSS enc w _ [c4] _ q4
    have q5 : DataW.trod enc Try.prog w 0 (fun _ => true) true n 26 (([c0, c1, c2, c3, c4, c5].drop 5).take (Try.prog.cellsOf 26)) = xs[5]? := hf 5 _ rfl
    rw [List.getElem?_eq_getElem (show 5 < xs.length by rw [hs]; decide)] at q5
    rw [show Try.prog.cellsOf 26 = 1 by kernel_rfl] at q5
    obtain ⟨a5, r5, f5⟩ := opn_Int64SSS enc w _ [c5] _ q5
    exact ⟨⟨a0, a1, a2, a3, a4, a5⟩, Rs.cons (Rs.head r0) (Rs.cons (Rs.head r1) (Rs.cons (Rs.head r2) (Rs.cons (Rs.head r3) (Rs.cons (Rs.head r4) (Rs.cons (Rs.head r5) (Rs.nil _)))))), ⟨f1, f2, f3, f4, f5⟩⟩
end Go.Proofs.Ytlolldjkahkbfaa
