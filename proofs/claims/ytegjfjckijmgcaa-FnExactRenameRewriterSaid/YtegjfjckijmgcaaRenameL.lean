/- Renamings: what the reference and the program return, in the law's form. -/
import Derived.Test.YtegjfjckijmgcaaRename
import Derived.Test.YtegjfjckijmgcaaLwC
set_option linter.unusedVariables false
set_option linter.unusedSimpArgs false
set_option maxRecDepth 100000
namespace Go.Proofs.Ytegjfjckijmgcaa
open Aw

/-- What a renaming gives. -/
def rnX (w : ByteArray) : GRewriter := if renOk w = true then renG w else ⟨0, 0, [], [], []⟩
def rnC (w : ByteArray) : Int := if renOk w = true then 0 else 2
theorem rn_inn {w : ByteArray} {k : Nat} (h : okWord w = true) (hk : k < w.size) (hb : ¬ bt w k < 97) : isInnB (bt w k) = true := by
  have hc : bt w k ∈ wl w := by rw [bt_wl hk]; exact List.getElem_mem _
  simp only [okWord, Bool.and_eq_true, List.all_eq_true] at h
  have := h.1 _ hc
  generalize bt w k = c at *
  simp only [decide_eq_true_eq] at this
  unfold symIx at this
  simp only [isInnB, Bool.or_eq_true, decide_eq_true_eq]
  revert this
  split <;> omega
set_option maxHeartbeats 4000000 in
theorem ev_spec_Rename_no (w : ByteArray) (hz : w.size ≤ 1048576) (h : renOk w = false) : ev fns i_spec_RenameRewriter [str w] [] = some (.tup [zRw, i64 2], []) := by
  refine go_spec_RenameRewriter (by simp) ?_
  have v := ev_spec_l01Ok w (by omega)
  simp at v
  have w1 : IntKind.i64.wrap 1 = 1 := by decide
  by_cases hs : w.size = 6
  · cases hw : okWord w
    · rw [hw] at v
      simp [ac_spec_RenameRewriter, hs, v, setCells]
    rw [hw] at v
    cases h0 : isCallB (bt w 0)
    · simp [ac_spec_RenameRewriter, hs, v, h0, setCells]
    cases h1 : isCallB (bt w 1)
    · simp [ac_spec_RenameRewriter, hs, v, h0, h1, setCells]
    cases h2 : isRetB (bt w 2)
    · simp [ac_spec_RenameRewriter, hs, v, h0, h1, h2, setCells]
    cases h3 : isRetB (bt w 3)
    · simp [ac_spec_RenameRewriter, hs, v, h0, h1, h2, h3, setCells]
    by_cases g4 : bt w 4 < 97
    · simp [ac_spec_RenameRewriter, hs, v, h0, h1, h2, h3, g4, setCells]
    by_cases g5 : bt w 5 < 97
    · simp [ac_spec_RenameRewriter, hs, v, h0, h1, h2, h3, g4, g5, setCells]
    exfalso
    have h4 : isInnB (bt w 4) = true := rn_inn hw (k := 4) (by omega) g4
    have h5 : isInnB (bt w 5) = true := rn_inn hw (k := 5) (by omega) g5
    simp [renOk, hs, hw, h0, h1, h2, h3, h4, h5] at h
  · simp [ac_spec_RenameRewriter, hs, show ¬ (w.size : Int) = 6 by omega, setCells]
theorem spC_RenameRewriter (w : ByteArray) (hw : w.size ≤ 1048576) : ∃ q, ev fns i_spec_RenameRewriter [str w] [] = some (.tup [q, i64 (rnC w)], []) ∧ q.bel 0 = true ∧ PV.ty (Own.sh GRewriter) q = Enc.pv (rnX w) := by
  cases h : renOk w
  · exact ⟨zRw, by simpa [rnC, h] using ev_spec_Rename_no w hw h, rfl, by simp [rnX, h]; rfl⟩
  · refine ⟨(renG w).v, by simpa [rnC, h] using ev_spec_Rename_ok w h, by simp [PV.bel, PV.bels], ?_⟩
    have : PV.ty (Own.sh GRewriter) (Enc.pv (renG w)) = Enc.pv (renG w) := congrFun ty_Rewriter (renG w)
    simpa [rnX, h] using this
theorem own_zRw : OwnIn [] [] zRw (⟨0, 0, [], [], []⟩ : GRewriter) :=
  ⟨⟨[], _, [], _, [], _, [], _, [], _, rfl, rfl, ⟨rfl, rfl⟩, ⟨rfl, rfl⟩, .inl ⟨rfl, rfl, rfl⟩, .inl ⟨rfl, rfl, rfl⟩, .inl ⟨rfl, rfl, rfl⟩⟩, by simp, by simp⟩
theorem good_rnA (w : ByteArray) : GoodN (rnA w) := by
  constructor
  · simp [Good, objsBel, PV.bels, PV.bel]
  · simp [AObj.nl, PV.nls, PV.nl]
theorem imC_RenameRewriter (w : ByteArray) (hw : w.size ≤ 1048576) : ∃ p τ ids, ev fns i_impl_RenameRewriter [str w] [] = some (.tup [p, i64 (rnC w)], τ) ∧ OwnIn τ ids p (rnX w) ∧ GoodN τ := by
  cases h : renOk w
  · exact ⟨zRw, [], [], by simpa [rnC, h] using ev_impl_Rename_no w hw h, by simpa [rnX, h] using own_zRw, GoodN.nil⟩
  · exact ⟨rnV 4, rnA w, [4, 7, 5, 8, 10, 11, 6, 9], by simpa [rnC, h] using ev_impl_Rename_ok w h, by simpa [rnX, h] using own_rename w, good_rnA w⟩
theorem leC_RenameRewriter (w : ByteArray) (hw : w.size ≤ 1048576) : Siz.size (rnX w) ≤ 1048576 := by
  unfold rnX
  have hl : ∀ i j, (w.extract i j).size ≤ j - i := fun i j => by rw [ByteArray.size_extract]; omega
  split
  · simp [renG, size_Rewriter, Siz.size_list, Siz.sum, size_OutPush, size_OutMove, size_str]
    have := hl 0 1; have := hl 1 2; have := hl 2 3; have := hl 3 4; have := hl 4 5; have := hl 5 6
    omega
  · simp [size_Rewriter, Siz.size_list, Siz.sum]
end Go.Proofs.Ytegjfjckijmgcaa
