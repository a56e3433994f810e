/- Renamings: the program's and the reference's. -/
import Derived.Test.YtegjfjckijmgcaaWord
import Derived.Test.YtegjfjckijmgcaaMks
set_option linter.unusedVariables false
set_option linter.unusedSimpArgs false
set_option maxRecDepth 100000
namespace Go.Proofs.Ytegjfjckijmgcaa
open Aw

abbrev capW (w : ByteArray) : PV := .fn i_impl_RenameRewriter_1 [.fptr [str w] 0]
theorem ev_ren1 (w : ByteArray) (hs : w.size = 6) (i : Int) (h : 0 ≤ i ∧ i < 6) : ev fns i_impl_RenameRewriter_1 [i64 i, .fptr [str w] 0] [] = some (str (w.extract i.toNat (i.toNat + 1)), []) := by
  refine go_impl_RenameRewriter_1 (by simp) ?_
  have hw := wrap_i64 (n := i + 1) (by omega)
  obtain ⟨n, rfl⟩ := Int.eq_ofNat_of_zero_le h.1
  simp [ac_impl_RenameRewriter_1, hw, hs, show (n : Int) + 1 ≤ 6 by omega, show n + 1 ≤ 6 by omega, show (0 : Int) ≤ (n : Int) + 1 by omega]
theorem ev_renaming_1 (w : ByteArray) (hs : w.size = 6) (s k : Int) (h : 0 ≤ k ∧ k < 2) : ev fns i_impl_renaming_1 [i64 s, i64 k, .fptr [capW w] 0] [] = some (.agg [i64 0, i64 0, str (w.extract k.toNat (k.toNat + 1))], []) := by
  refine go_impl_renaming_1 (by simp) ?_
  have h1 := ev_ren1 w hs k (by omega)
  simp at h1
  simp [ac_impl_renaming_1, h1, setCells]
theorem ev_renaming_2 (w : ByteArray) (hs : w.size = 6) (s k m : Int) (h : 0 ≤ k ∧ k < 2) : ev fns i_impl_renaming_2 [i64 s, i64 k, i64 m, .fptr [capW w] 0] [] = some (.agg [i64 0, str (w.extract (2 + k).toNat ((2 + k).toNat + 1))], []) := by
  refine go_impl_renaming_2 (by simp) ?_
  have h1 := ev_ren1 w hs (2 + k) (by omega)
  have hw := wrap_i64 (n := 2 + k) (by omega)
  simp at h1
  simp [ac_impl_renaming_2, h1, hw, setCells]
theorem ev_renaming_3 (w : ByteArray) (hs : w.size = 6) (s k : Int) (h : 0 ≤ k ∧ k < 2) : ev fns i_impl_renaming_3 [i64 s, i64 k, .fptr [capW w] 0] [] = some (.agg [i64 0, str (w.extract (4 + k).toNat ((4 + k).toNat + 1))], []) := by
  refine go_impl_renaming_3 (by simp) ?_
  have h1 := ev_ren1 w hs (4 + k) (by omega)
  have hw := wrap_i64 (n := 4 + k) (by omega)
  simp at h1
  simp [ac_impl_renaming_3, h1, hw, setCells]
@[simp] abbrev ex (w : ByteArray) (i j : Nat) : PV := str (w.extract i j)
/-- The objects of a renaming. -/
@[simp] abbrev rnT (w : ByteArray) : List AObj := [.row 1 [.own 5 0 0 2] 0, .row 1 [.own 6 0 0 2] 0, .row 1 [.own 7 0 0 2] 0,
  .row 3 [.agg [i64 0, i64 0, ex w 0 1], .agg [i64 0, i64 0, ex w 1 2]] 0, .row 1 [.own 8 0 0 2, .own 9 0 0 2] 0, .row 2 [.agg [i64 0, ex w 4 5], .agg [i64 0, ex w 5 6]] 0,
  .row 2 [.agg [i64 0, ex w 2 3], .agg [i64 0, ex w 2 3]] 0, .row 2 [.agg [i64 0, ex w 3 4], .agg [i64 0, ex w 3 4]] 0]
@[simp] abbrev rnR : AObj := .row 5 [.agg [i64 1, i64 0, .own 2 0 0 1, .own 3 0 0 1, .own 4 0 0 1]] 0
@[simp] abbrev rnS (w : ByteArray) : List AObj := rnR :: rnR :: rnT w
set_option maxHeartbeats 4000000 in
theorem ev_built (w : ByteArray) (hs : w.size = 6) : ev fns i_impl_builtRewriter [i64 1, i64 1, i64 0, .fn i_impl_renaming_1 [.fptr [capW w] 0], .fn i_impl_renaming_2 [.fptr [capW w] 0], .fn i_impl_renaming_3 [.fptr [capW w] 0]] [] = some (.agg [i64 1, i64 0, .own 2 0 0 1, .own 3 0 0 1, .own 4 0 0 1], rnS w) := by
  refine go_impl_builtRewriter (by simp) ?_
  have w1 : IntKind.i64.wrap 1 = 1 := by decide
  have w2 : IntKind.i64.wrap 2 = 2 := by decide
  have a0 := ev_renaming_1 w hs 0 0 (by omega)
  have a1 := ev_renaming_1 w hs 0 1 (by omega)
  have b0 := ev_renaming_2 w hs 0 0 0 (by omega)
  have b1 := ev_renaming_2 w hs 0 0 1 (by omega)
  have b2 := ev_renaming_2 w hs 0 1 0 (by omega)
  have b3 := ev_renaming_2 w hs 0 1 1 (by omega)
  have c0 := ev_renaming_3 w hs 0 0 (by omega)
  have c1 := ev_renaming_3 w hs 0 1 (by omega)
  simp at a0 a1 b0 b1 b2 b3 c0 c1
  simp [ac_impl_builtRewriter, w1, w2, setCells]
  rw [l_impl_builtRewriter_2]
  simp [lb_impl_builtRewriter_2, a0, a1, b0, b1, b2, b3, c0, c1, w1, w2, setCells, nvRow, PV.bels]
  rw [l_impl_builtRewriter_1]
  simp [lb_impl_builtRewriter_1, a0, a1, b0, b1, b2, b3, c0, c1, w1, w2, setCells, nvRow, PV.bels]
  rw [l_impl_builtRewriter_0]
  simp [lb_impl_builtRewriter_0, a0, a1, b0, b1, b2, b3, c0, c1, w1, w2, setCells, nvRow, PV.bels]
  rw [l_impl_builtRewriter_0]
  simp [lb_impl_builtRewriter_0, a0, a1, b0, b1, b2, b3, c0, c1, w1, w2, setCells, nvRow, PV.bels]
  rw [l_impl_builtRewriter_0]
  simp [lb_impl_builtRewriter_0, a0, a1, b0, b1, b2, b3, c0, c1, w1, w2, setCells, nvRow, PV.bels]
  rw [l_impl_builtRewriter_1]
  simp [lb_impl_builtRewriter_1, a0, a1, b0, b1, b2, b3, c0, c1, w1, w2, setCells, nvRow, PV.bels]
  rw [l_impl_builtRewriter_0]
  simp [lb_impl_builtRewriter_0, a0, a1, b0, b1, b2, b3, c0, c1, w1, w2, setCells, nvRow, PV.bels]
  rw [l_impl_builtRewriter_0]
  simp [lb_impl_builtRewriter_0, a0, a1, b0, b1, b2, b3, c0, c1, w1, w2, setCells, nvRow, PV.bels]
  rw [l_impl_builtRewriter_0]
  simp [lb_impl_builtRewriter_0, a0, a1, b0, b1, b2, b3, c0, c1, w1, w2, setCells, nvRow, PV.bels]
  rw [l_impl_builtRewriter_1]
  simp [lb_impl_builtRewriter_1, a0, a1, b0, b1, b2, b3, c0, c1, w1, w2, setCells, nvRow, PV.bels]
  rw [l_impl_builtRewriter_2]
  simp [lb_impl_builtRewriter_2, a0, a1, b0, b1, b2, b3, c0, c1, w1, w2, setCells, nvRow, PV.bels]
@[simp] abbrev rnV (k : Nat) : PV := .agg [i64 1, i64 0, .own k 0 0 1, .own (k + 1) 0 0 1, .own (k + 2) 0 0 1]
/-- The objects of a renaming, from the k-th on. -/
@[simp] abbrev rnO (w : ByteArray) (k : Nat) : List AObj := [.row 1 [.own (k + 3) 0 0 2] 0, .row 1 [.own (k + 4) 0 0 2] 0, .row 1 [.own (k + 5) 0 0 2] 0,
  .row 3 [.agg [i64 0, i64 0, ex w 0 1], .agg [i64 0, i64 0, ex w 1 2]] 0, .row 1 [.own (k + 6) 0 0 2, .own (k + 7) 0 0 2] 0, .row 2 [.agg [i64 0, ex w 4 5], .agg [i64 0, ex w 5 6]] 0,
  .row 2 [.agg [i64 0, ex w 2 3], .agg [i64 0, ex w 2 3]] 0, .row 2 [.agg [i64 0, ex w 3 4], .agg [i64 0, ex w 3 4]] 0]
theorem ev_renaming (w : ByteArray) (hs : w.size = 6) : ev fns i_impl_renaming [capW w] [] = some (rnV 3, .row 5 [rnV 3] 0 :: .row 5 [rnV 3] 0 :: .row 5 [rnV 3] 0 :: rnO w 3) := by
  refine go_impl_renaming (by simp) ?_
  have h := ev_built w hs
  simp at h
  simp [ac_impl_renaming, h, setCells, nvRow, PV.bels]
/-- Which texts rename. -/
def renOk (w : ByteArray) : Bool := decide (w.size = 6) && okWord w && isCallB (bt w 0) && isCallB (bt w 1) && isRetB (bt w 2) && isRetB (bt w 3) && isInnB (bt w 4) && isInnB (bt w 5)
set_option maxHeartbeats 4000000 in
theorem ev_impl_Rename_ok (w : ByteArray) (h : renOk w = true) : ev fns i_impl_RenameRewriter [str w] [] = some (.tup [rnV 4, i64 0], .row 5 [rnV 4] 0 :: .row 5 [rnV 4] 0 :: .row 5 [rnV 4] 0 :: .row 5 [rnV 4] 0 :: rnO w 4) := by
  refine go_impl_RenameRewriter (by simp) ?_
  simp only [renOk, Bool.and_eq_true, decide_eq_true_eq] at h
  obtain ⟨⟨⟨⟨⟨⟨⟨hs, hw⟩, h0⟩, h1⟩, h2⟩, h3⟩, h4⟩, h5⟩ := h
  have v := ev_impl_ValidWord w (by omega)
  have q := ev_renaming w hs
  have c0 := ev_impl_isCall (bt w 0)
  have c1 := ev_impl_isCall (bt w 1)
  have c2 := ev_impl_isReturn (bt w 2)
  have c3 := ev_impl_isReturn (bt w 3)
  have c4 := ev_impl_isInner (bt w 4)
  have c5 := ev_impl_isInner (bt w 5)
  rw [hw] at v
  rw [h0] at c0; rw [h1] at c1; rw [h2] at c2; rw [h3] at c3; rw [h4] at c4; rw [h5] at c5
  have w1 : IntKind.i64.wrap 1 = 1 := by decide
  have w2 : IntKind.i64.wrap 2 = 2 := by decide
  have w3 : IntKind.i64.wrap 3 = 3 := by decide
  have w4 : IntKind.i64.wrap 4 = 4 := by decide
  have w5 : IntKind.i64.wrap 5 = 5 := by decide
  have w6 : IntKind.i64.wrap 6 = 6 := by decide
  simp at v q c0 c1 c2 c3 c4 c5
  simp [ac_impl_RenameRewriter, hs, v, w1, setCells]
  rw [l_impl_RenameRewriter_0]
  simp [lb_impl_RenameRewriter_0, hs, w1, c0]
  rw [l_impl_RenameRewriter_0]
  simp [lb_impl_RenameRewriter_0, hs, w2, c1]
  rw [l_impl_RenameRewriter_0]
  simp [lb_impl_RenameRewriter_0, hs, w3, c2]
  rw [l_impl_RenameRewriter_0]
  simp [lb_impl_RenameRewriter_0, hs, w4, c3]
  rw [l_impl_RenameRewriter_0]
  simp [lb_impl_RenameRewriter_0, hs, w5, c4]
  rw [l_impl_RenameRewriter_0]
  simp [lb_impl_RenameRewriter_0, hs, w6, c5]
  rw [l_impl_RenameRewriter_0]
  simp [lb_impl_RenameRewriter_0, hs, q, setCells, nvRow, PV.bels]
@[simp] abbrev zRw : PV := .agg [i64 0, i64 0, .val (.slice none 0 0), .val (.slice none 0 0), .val (.slice none 0 0)]
set_option maxHeartbeats 4000000 in
theorem ev_impl_Rename_no (w : ByteArray) (hz : w.size ≤ 1048576) (h : renOk w = false) : ev fns i_impl_RenameRewriter [str w] [] = some (.tup [zRw, i64 2], []) := by
  refine go_impl_RenameRewriter (by simp) ?_
  have v := ev_impl_ValidWord w (by omega)
  simp at v
  by_cases hs : w.size = 6
  · cases hw : okWord w
    · rw [hw] at v
      simp [ac_impl_RenameRewriter, hs, v, setCells]
    rw [hw] at v
    have w1 : IntKind.i64.wrap 1 = 1 := by decide
    have w2 : IntKind.i64.wrap 2 = 2 := by decide
    have w3 : IntKind.i64.wrap 3 = 3 := by decide
    have w4 : IntKind.i64.wrap 4 = 4 := by decide
    have w5 : IntKind.i64.wrap 5 = 5 := by decide
    have w6 : IntKind.i64.wrap 6 = 6 := by decide
    simp [ac_impl_RenameRewriter, hs, v, setCells]
    rw [l_impl_RenameRewriter_0]
    cases h0 : isCallB (bt w 0)
    · simp [lb_impl_RenameRewriter_0, hs, w1, h0, ev_impl_isInner, setCells, nvRow, PV.bels]
    simp [lb_impl_RenameRewriter_0, hs, w1, h0, ev_impl_isInner]
    rw [l_impl_RenameRewriter_0]
    cases h1 : isCallB (bt w 1)
    · simp [lb_impl_RenameRewriter_0, hs, w2, h1, ev_impl_isInner, setCells, nvRow, PV.bels]
    simp [lb_impl_RenameRewriter_0, hs, w2, h1, ev_impl_isInner]
    rw [l_impl_RenameRewriter_0]
    cases h2 : isRetB (bt w 2)
    · simp [lb_impl_RenameRewriter_0, hs, w3, h2, ev_impl_isInner, setCells, nvRow, PV.bels]
    simp [lb_impl_RenameRewriter_0, hs, w3, h2, ev_impl_isInner]
    rw [l_impl_RenameRewriter_0]
    cases h3 : isRetB (bt w 3)
    · simp [lb_impl_RenameRewriter_0, hs, w4, h3, ev_impl_isInner, setCells, nvRow, PV.bels]
    simp [lb_impl_RenameRewriter_0, hs, w4, h3, ev_impl_isInner]
    rw [l_impl_RenameRewriter_0]
    cases h4 : isInnB (bt w 4)
    · simp [lb_impl_RenameRewriter_0, hs, w5, h4, ev_impl_isInner, setCells, nvRow, PV.bels]
    simp [lb_impl_RenameRewriter_0, hs, w5, h4, ev_impl_isInner]
    rw [l_impl_RenameRewriter_0]
    cases h5 : isInnB (bt w 5)
    · simp [lb_impl_RenameRewriter_0, hs, w6, h5, ev_impl_isInner, setCells, nvRow, PV.bels]
    simp [lb_impl_RenameRewriter_0, hs, w6, h5, ev_impl_isInner]
    simp [renOk, hs, hw, h0, h1, h2, h3, h4, h5] at h
  · simp [ac_impl_RenameRewriter, hs, show ¬ (w.size : Int) = 6 by omega, setCells]
set_option maxHeartbeats 4000000 in
theorem ev_spec_l06Plain11 : ev fns i_spec_l06Plain [i64 1, i64 1] [] = some (rnV 2, [.row 5 [rnV 2] 0, .row 5 [rnV 2] 0, .row 1 [.own 5 0 0 2] 0, .row 1 [.own 7 0 0 2] 0, .row 1 [.own 6 0 0 2] 0,
    .row 3 [.agg [i64 0, i64 0, str ⟨#[40]⟩], .agg [i64 0, i64 0, str ⟨#[91]⟩]] 0, .row 2 [.agg [i64 0, str ⟨#[97]⟩], .agg [i64 0, str ⟨#[98]⟩]] 0, .row 1 [.own 8 0 0 2, .own 9 0 0 2] 0,
    .row 2 [.agg [i64 0, str ⟨#[41]⟩], .agg [i64 0, str ⟨#[41]⟩]] 0, .row 2 [.agg [i64 0, str ⟨#[93]⟩], .agg [i64 0, str ⟨#[93]⟩]] 0]) := by
  refine go_spec_l06Plain (by simp) ?_
  have w1 : IntKind.i64.wrap 1 = 1 := by decide
  have w2 : IntKind.i64.wrap 2 = 2 := by decide
  simp [ac_spec_l06Plain, w1, setCells]
  rw [l_spec_l06Plain_1]
  simp [lb_spec_l06Plain_1, w1, w2, setCells, nvRow, PV.bels]
  rw [l_spec_l06Plain_0]
  simp [lb_spec_l06Plain_0, w1, w2, setCells, nvRow, PV.bels]
  rw [l_spec_l06Plain_0]
  simp [lb_spec_l06Plain_0, w1, w2, setCells, nvRow, PV.bels]
  rw [l_spec_l06Plain_0]
  simp [lb_spec_l06Plain_0, w1, w2, setCells, nvRow, PV.bels]
  rw [l_spec_l06Plain_1]
  simp [lb_spec_l06Plain_1, w1, w2, setCells, nvRow, PV.bels]
/-- The renaming. -/
def renG (w : ByteArray) : GRewriter := ⟨1, 0, [[⟨0, 0, w.extract 0 1⟩, ⟨0, 0, w.extract 1 2⟩]], [[[⟨0, w.extract 2 3⟩, ⟨0, w.extract 2 3⟩], [⟨0, w.extract 3 4⟩, ⟨0, w.extract 3 4⟩]]], [[⟨0, w.extract 4 5⟩, ⟨0, w.extract 5 6⟩]]⟩
set_option maxHeartbeats 4000000 in
theorem ev_spec_Rename_ok (w : ByteArray) (h : renOk w = true) : ev fns i_spec_RenameRewriter [str w] [] = some (.tup [(renG w).v, i64 0], []) := by
  refine go_spec_RenameRewriter (by simp) ?_
  simp only [renOk, Bool.and_eq_true, decide_eq_true_eq] at h
  obtain ⟨⟨⟨⟨⟨⟨⟨hs, hw⟩, h0⟩, h1⟩, h2⟩, h3⟩, h4⟩, h5⟩ := h
  have v := ev_spec_l01Ok w (by omega)
  rw [hw] at v
  have q := ev_spec_l06Plain11
  have w1 : IntKind.i64.wrap 1 = 1 := by decide
  have w2 : IntKind.i64.wrap 2 = 2 := by decide
  have w3 : IntKind.i64.wrap 3 = 3 := by decide
  have w4 : IntKind.i64.wrap 4 = 4 := by decide
  have w5 : IntKind.i64.wrap 5 = 5 := by decide
  have w6 : IntKind.i64.wrap 6 = 6 := by decide
  have g4 : ¬ bt w 4 < 97 := by simp [isInnB] at h4; omega
  have g5 : ¬ bt w 5 < 97 := by simp [isInnB] at h5; omega
  simp at v q
  simp [ac_spec_RenameRewriter, hs, v, q, h0, h1, h2, h3, g4, g5, setCells]
  rw [l_spec_RenameRewriter_0]
  simp [lb_spec_RenameRewriter_0, hs, w1, w2, w3, w4, w5, w6, setCells, nvRow, PV.bels]
  rw [l_spec_RenameRewriter_0]
  simp [lb_spec_RenameRewriter_0, hs, w1, w2, w3, w4, w5, w6, setCells, nvRow, PV.bels]
  rw [l_spec_RenameRewriter_0]
  simp [lb_spec_RenameRewriter_0, hs, setCells, nvRow, PV.bels, renG]
abbrev rnA (w : ByteArray) : List AObj := .row 5 [rnV 4] 0 :: .row 5 [rnV 4] 0 :: .row 5 [rnV 4] 0 :: .row 5 [rnV 4] 0 :: rnO w 4
theorem own_rename (w : ByteArray) : OwnIn (rnA w) [4, 7, 5, 8, 10, 11, 6, 9] (rnV 4) (renG w) := by
  have f7 : Own.own (rnA w) [7] (.own 7 0 0 2) [(⟨0, 0, w.extract 0 1⟩ : GOutPush), ⟨0, 0, w.extract 1 2⟩] := own_flat _ rfl (by simp)
  have f10 : Own.own (rnA w) [10] (.own 10 0 0 2) [(⟨0, w.extract 2 3⟩ : GOutMove), ⟨0, w.extract 2 3⟩] := own_flat _ rfl (by simp)
  have f11 : Own.own (rnA w) [11] (.own 11 0 0 2) [(⟨0, w.extract 3 4⟩ : GOutMove), ⟨0, w.extract 3 4⟩] := own_flat _ rfl (by simp)
  have f9 : Own.own (rnA w) [9] (.own 9 0 0 2) [(⟨0, w.extract 4 5⟩ : GOutMove), ⟨0, w.extract 5 6⟩] := own_flat _ rfl (by simp)
  have f4 : Own.own (rnA w) [4, 7] (.own 4 0 0 1) [[(⟨0, 0, w.extract 0 1⟩ : GOutPush), ⟨0, 0, w.extract 1 2⟩]] := .inr ⟨4, 0, [.own 7 0 0 2], [[7]], rfl, rfl, by simp, rfl, f7, trivial⟩
  have f8 : Own.own (rnA w) [8, 10, 11] (.own 8 0 0 2) [[(⟨0, w.extract 2 3⟩ : GOutMove), ⟨0, w.extract 2 3⟩], [⟨0, w.extract 3 4⟩, ⟨0, w.extract 3 4⟩]] := .inr ⟨8, 0, [.own 10 0 0 2, .own 11 0 0 2], [[10], [11]], rfl, rfl, by simp, rfl, f10, f11, trivial⟩
  have f5 : Own.own (rnA w) [5, 8, 10, 11] (.own 5 0 0 1) [[[(⟨0, w.extract 2 3⟩ : GOutMove), ⟨0, w.extract 2 3⟩], [⟨0, w.extract 3 4⟩, ⟨0, w.extract 3 4⟩]]] := .inr ⟨5, 0, [.own 8 0 0 2], [[8, 10, 11]], rfl, rfl, by simp, rfl, f8, trivial⟩
  have f6 : Own.own (rnA w) [6, 9] (.own 6 0 0 1) [[(⟨0, w.extract 4 5⟩ : GOutMove), ⟨0, w.extract 5 6⟩]] := .inr ⟨6, 0, [.own 9 0 0 2], [[9]], rfl, rfl, by simp, rfl, f9, trivial⟩
  exact ⟨⟨[], _, [], _, [4, 7], _, [5, 8, 10, 11], _, [6, 9], _, rfl, rfl, ⟨rfl, rfl⟩, ⟨rfl, rfl⟩, f4, f5, f6⟩, by simp, by simp⟩
end Go.Proofs.Ytegjfjckijmgcaa
