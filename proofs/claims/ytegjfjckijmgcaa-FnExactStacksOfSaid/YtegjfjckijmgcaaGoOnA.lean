/- Going on from a state: the program's and the reference's; the law FnExactGoOn, run. -/
import Derived.Test.YtegjfjckijmgcaaRunC
import Derived.Test.YtegjfjckijmgcaaMks
set_option linter.unusedVariables false
set_option linter.unusedSimpArgs false
set_option maxRecDepth 100000
namespace Go.Proofs.Ytegjfjckijmgcaa
open Aw

def okFrom (c : GChecker) (s : Int) (stk : List Int) : Bool := inR s 0 ((c.accept.length : Int) - 1) && decide (stk.length ≤ 60) && stk.all (fun m => inR m 0 (c.stack - 1))
def goOnA (c : GChecker) (s : Int) (stk : List Int) (w : ByteArray) : Int × List Int × Int :=
  if (okCk c && okWord w) = true then
    if okFrom c s stk = true then ((goC c (s, stk) (wl w)).1, (goC c (s, stk) (wl w)).2, 0)
    else (0, [], 2)
  else (0, [], 1)
theorem okFrom_ck {c : GChecker} {s : Int} {stk : List Int} (h : okFrom c s stk = true) : CkI c 60 (s, stk) := by
  simp only [okFrom, Bool.and_eq_true, decide_eq_true_eq, List.all_eq_true] at h
  exact ⟨h.1.1, h.2, h.1.2⟩
theorem own_nil {σ : List AObj} : OwnIn σ [] (.val (.slice none 0 0)) ([] : List Int) := ⟨.inl ⟨rfl, rfl, rfl⟩, by simp, by simp⟩
theorem own_ints (l : List Int) (h : l.length ≤ 140737488355328) : OwnIn [.row 1 (l.map Enc.pv) 0] [0] (.own 0 0 0 l.length) l := ⟨own_flat l rfl h, by simp, by simp⟩
theorem goodN_ints (l : List Int) : GoodN [.row 1 (l.map Enc.pv) 0] := by
  refine ⟨by simp only [Good, List.length_singleton, objsBel, Bool.and_true]; exact bels_map _ _, ?_⟩
  simp only [List.all_cons, List.all_nil, Bool.and_true, AObj.nl, PV.nls_iff]
  intro p hp
  obtain ⟨y, _, rfl⟩ := List.mem_map.1 hp
  simp [PV.nl]
/-! ### What the law's calls come to -/
@[simp] abbrev shC : Sh := .agg [.any, .any, .lst 1 .any, .lst 1 (.lst 2 .any), .lst 1 (.lst 1 (.lst 1 .any)), .lst 1 (.lst 1 .any)]
@[simp] abbrev shI : Sh := .lst 1 .any
theorem dep_Checker : Own.dep GChecker ≤ 9 := by decide
theorem dep_Int64S : Own.dep (List Int) ≤ 9 := by decide
theorem readC {σ : List AObj} {ids : List Nat} {p : PV} {x : GChecker} (h : OwnIn σ ids p x) : ∃ q, dfr σ 9 p = some q ∧ PV.ty shC q = Enc.pv x := h.read dep_Checker
theorem readI {σ : List AObj} {ids : List Nat} {p : PV} {x : List Int} (h : OwnIn σ ids p x) : ∃ q, dfr σ 9 p = some q ∧ PV.ty shI q = Enc.pv x := h.read dep_Int64S
theorem callG {α : Type} [Enc α] [Own α] {f : FuncId} {sz : α → Nat} (h : ToC fns f sz) (x : α) (hx : sz x ≤ 1048576) (σ : List AObj) (hg : Good σ) :
    ∃ p m ids, callN fns f [Enc.pv x] σ = some (p, σ ++ m) ∧ OwnIn (σ ++ m) ids p x ∧ (∀ i ∈ ids, σ.length ≤ i) ∧ Good (σ ++ m) := by
  obtain ⟨p, τ, ids, e1, e2, e3, e4⟩ := h x hx
  refine ⟨p.sh σ.length, τ.map (AObj.sh σ.length), ids.map (· + σ.length), ?_, e2.shift σ, fun i hi => ?_, hg.app e3.1⟩
  · rw [callN_made (by simp [PV.bels]) e1]; rfl
  · obtain ⟨j, _, rfl⟩ := List.mem_map.1 hi; omega
theorem eqI_call {σ : List AObj} {p : PV} {ids : List Nat} {l : List Int} (o : OwnIn σ ids p l) (hl : l.length ≤ 1048576) (b : Bool) : callT fns [shI, shI] i_laws_eqInt64S [p, .list 1 (l.map Enc.pv) b] σ = some (bol true, σ) := by
  obtain ⟨q, d, y⟩ := readI o
  have hy : PV.ty shI (.list 1 (l.map Enc.pv) b) = lst 1 l := by cases l <;> simp
  exact callT_readL (qs := [q, .list 1 (l.map Enc.pv) b]) (by simp only [mapO, d]; simp [dfr]) (by simp only [PV.tys, y, hy]; have := ev_laws_eqInt64S l l (by rw [Siz.size_flat_int]; exact hl); simpa using this) (by simp) (by simp [PV.nl])
theorem eqI_call2 {σ : List AObj} {p p' : PV} {ids ids' : List Nat} {l : List Int} (o : OwnIn σ ids p l) (o' : OwnIn σ ids' p' l) (hl : l.length ≤ 1048576) : callT fns [shI, shI] i_laws_eqInt64S [p, p'] σ = some (bol true, σ) := by
  obtain ⟨q, d, y⟩ := readI o
  obtain ⟨q', d', y'⟩ := readI o'
  exact callT_readL (qs := [q, q']) (by simp only [mapO, d, d']) (by simp only [PV.tys, y, y']; have := ev_laws_eqInt64S l l (by rw [Siz.size_flat_int]; exact hl); simpa using this) (by simp) (by simp [PV.nl])
theorem eqC_call2 {σ : List AObj} {p p' : PV} {ids ids' : List Nat} {c : GChecker} (o : OwnIn σ ids p c) (o' : OwnIn σ ids' p' c) (hz : Siz.size c ≤ 1048576) : callT fns [shC, shC] i_laws_eqChecker [p, p'] σ = some (bol true, σ) := by
  obtain ⟨q, d, y⟩ := readC o
  obtain ⟨q', d', y'⟩ := readC o'
  exact callT_readL (qs := [q, q']) (by simp only [mapO, d, d']) (by simp only [PV.tys, y, y']; have := ev_laws_eqChecker c c hz; simpa using this) (by simp) (by simp [PV.nl])
theorem heldI_call {σ : List AObj} {p : PV} {ids : List Nat} {l : List Int} (o : OwnIn σ ids p (mkF 1 (fun k => k) l 1)) (hl : l.length ≤ 1048576) : callT fns [shI, .any] i_laws_heldInt64S [p, i64 1] σ = some (i64 (1 + l.length), σ) := by
  obtain ⟨q, d, y⟩ := readI o
  have h := heldC_Int64S σ ids p l 1 o.own (by omega) (by dsimp only; omega)
  exact callT_readL (qs := [q, i64 1]) (by simp only [mapO, d]; simp [dfr]) (by simp only [PV.tys, y]; simpa using h) (by simp) (by simp [PV.nl])
theorem sumW_le {α : Type} [Siz α] {W : α → Nat} (h : ∀ y : α, W y ≤ 2 * Siz.size y) : ∀ xs : List α, sumW W xs ≤ 2 * Siz.size xs := by
  intro xs
  rw [Siz.size_list]
  induction xs with
  | nil => simp [sumW]
  | cons x xs ih => simp only [sumW, Siz.sum, List.length_cons]; have := h x; omega
theorem wChecker_le (x : GChecker) : wChecker x ≤ 2 * Siz.size x := by
  rw [size_Checker]
  unfold wChecker
  have h1 := Siz.len_le x.accept
  have h2 := sumW_le (W := fun xs : List GPush => 2 * xs.length) (fun y => by have := Siz.len_le y; (try dsimp only); omega) x.call
  have h3 := sumW_le (W := sumW (fun xs : List Int => 1 * xs.length)) (fun y => sumW_le (fun z => by have := Siz.len_le z; (try dsimp only); omega) y) x.ret
  have h4 := sumW_le (W := fun xs : List Int => 1 * xs.length) (fun y => by have := Siz.len_le y; (try dsimp only); omega) x.inner
  (try dsimp only)
  omega
theorem goOnA_len (c : GChecker) (s : Int) (stk : List Int) (w : ByteArray) : (goOnA c s stk w).2.1.length ≤ 1048576 := by
  unfold goOnA
  split
  · rename_i c1
    simp only [Bool.and_eq_true] at c1
    split
    · rename_i c2
      have := (goC_ok c1.1 (wl w) 60 _ (okFrom_ck c2) (okWord_symW c1.2)).ln
      have := okWord_le c1.2
      simp at *; omega
    · simp
  · simp

theorem cz_own {α : Type} [Enc α] [Own α] {f : FuncId} {sz : α → Nat} (h : ToC fns f sz) (x : α) (hx : sz x ≤ 1048576) (hd : Own.dep α ≤ 9) (hc : ∀ r, callN fns f [Enc.pv x] [] = some r → callV fns (ev fns) (.val (.func (.func f) #[] #[])) [Enc.pv x] [] = some r) :
    ∃ q, q.bel 0 = true ∧ PV.ty (Own.sh α) q = Enc.pv x ∧ ∀ σ, cz true (callV fns (ev fns)) (.val (.func (.func f) #[] #[])) [Enc.pv x] σ = some (q, σ) := by
  obtain ⟨p, τ, ids, a1, o1, _⟩ := h.callS x hx [] GoodN.nil
  obtain ⟨q, d, y⟩ := o1.read hd
  exact ⟨q, dfr_bel d, y, cz_made (by simp [PV.bels]) (hc _ a1) d⟩
end Go.Proofs.Ytegjfjckijmgcaa
