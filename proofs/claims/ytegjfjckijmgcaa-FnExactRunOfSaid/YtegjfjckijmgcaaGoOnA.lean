/- Going on from a state: the program's and the reference's; the law FnExactGoOn, run. -/
import Derived.Test.YtegjfjckijmgcaaRunC
import Derived.Test.YtegjfjckijmgcaaMks
set_option linter.unusedVariables false
set_option linter.unusedSimpArgs false
set_option maxRecDepth 100000
namespace Go.Proofs.Ytegjfjckijmgcaa
open Aw

def okFrom (c : GChecker) (s : Int) (stk : List Int) : Bool := inR s 0 ((c.accept.length : Int) - 1) && decide (stk.length ≤ 60) && stk.all (fun m => inR m 0 (c.stack - 1))
def goOnA (c : GChecker) (s : Int) (stk : List Int) (w : ByteArray) : Int × List Int × Int :=
  if (okCk c && okWord w) = true then
    if okFrom c s stk = true then ((goC c (s, stk) (wl w)).1, (goC c (s, stk) (wl w)).2, 0)
    else (0, [], 2)
  else (0, [], 1)
theorem okFrom_ck {c : GChecker} {s : Int} {stk : List Int} (h : okFrom c s stk = true) : CkI c 60 (s, stk) := by
  simp only [okFrom, Bool.and_eq_true, decide_eq_true_eq, List.all_eq_true] at h
  exact ⟨h.1.1, h.2, h.1.2⟩
theorem own_nil {σ : List AObj} : OwnIn σ [] (.val (.slice none 0 0)) ([] : List Int) := ⟨.inl ⟨rfl, rfl, rfl⟩, by simp, by simp⟩
theorem own_ints (l : List Int) (h : l.length ≤ 140737488355328) : OwnIn [.row 1 (l.map Enc.pv) 0] [0] (.own 0 0 0 l.length) l := ⟨own_flat l rfl h, by simp, by simp⟩
theorem goodN_ints (l : List Int) : GoodN [.row 1 (l.map Enc.pv) 0] := by
  refine ⟨by simp only [Good, List.length_singleton, objsBel, Bool.and_true]; exact bels_map _ _, ?_⟩
  simp only [List.all_cons, List.all_nil, Bool.and_true, AObj.nl, PV.nls_iff]
  intro p hp
  obtain ⟨y, _, rfl⟩ := List.mem_map.1 hp
  simp [PV.nl]
theorem ev_impl_GoOn (c : GChecker) (hz : Siz.size c ≤ 1048576) (s : Int) (stk : List Int) (hk : stk.length ≤ 1048576) (w : ByteArray) (hw : w.size ≤ 1048576) :
    ∃ p τ ids, ev fns i_impl_GoOn [c.v, i64 s, lst 1 stk, str w] [] = some (.tup [i64 (goOnA c s stk w).1, p, i64 (goOnA c s stk w).2.2], τ) ∧ OwnIn τ ids p (goOnA c s stk w).2.1 ∧ GoodN τ := by
  have h1 := ev_impl_ValidChecker c hz
  have h2 := ev_impl_ValidWord w (by omega)
  simp at h1 h2
  unfold goOnA
  cases c1 : okCk c
  · rw [c1] at h1
    refine ⟨.val (.slice none 0 0), [], [], go_impl_GoOn (by simp) ?_, own_nil, GoodN.nil⟩
    simp [ac_impl_GoOn, h1]
  rw [c1] at h1
  cases c2 : okWord w
  · rw [c2] at h2
    refine ⟨.val (.slice none 0 0), [], [], go_impl_GoOn (by simp) ?_, own_nil, GoodN.nil⟩
    simp [ac_impl_GoOn, h1, h2]
  rw [c2] at h2
  obtain ⟨g1, g2, _⟩ := okCk_len c1
  have h3 := ev_isState c s g1
  have h4 := ev_ContainsFunc_Int64 stk i_impl_GoOn_1 [CkP c] (by simp) (fun m => !inR m 0 (c.stack - 1)) (by omega) (fun m hm => by
    have v := ev_isMark c m g2
    simp at v
    have : ev fns i_impl_GoOn_1 [i64 m, CkP c] [] = some (bol (!inR m 0 (c.stack - 1)), []) := by
      refine go_impl_GoOn_1 (by simp) ?_
      simp [ac_impl_GoOn_1, v]
    simp at this
    simp [this])
  simp [any_not_all] at h3 h4
  cases f1 : inR s 0 ((c.accept.length : Int) - 1)
  · rw [f1] at h3
    have f0 : okFrom c s stk = false := by simp [okFrom, f1]
    refine ⟨.val (.slice none 0 0), [], [], go_impl_GoOn (by simp) ?_, by simp [f0]; exact own_nil, GoodN.nil⟩
    simp [ac_impl_GoOn, h1, h2, h3, f0]
  rw [f1] at h3
  by_cases f2 : stk.length ≤ 60
  · cases f3 : stk.all (fun m => inR m 0 (c.stack - 1))
    · rw [f3] at h4
      have f0 : okFrom c s stk = false := by simp only [okFrom, f3, Bool.and_false]
      refine ⟨.val (.slice none 0 0), [], [], go_impl_GoOn (by simp) ?_, by simp [f0]; exact own_nil, GoodN.nil⟩
      simp at h4
      simp [ac_impl_GoOn, h1, h2, h3, h4, f0, f2, show ¬ 60 < stk.length by omega, show ¬ (60 : Int) < stk.length by omega]
    · rw [f3] at h4
      have f0 : okFrom c s stk = true := by simp only [okFrom, f1, f3, f2, decide_true, Bool.and_true]
      have ck := okFrom_ck f0
      have ok := goC_ok c1 (wl w) 60 _ ck (okWord_symW c2)
      have hw6 := okWord_le c2
      have hln := ok.ln
      simp at hln
      have h5 := ev_Checker_end c c1 60 _ ck w (okWord_symW c2) (by omega)
      have h6 := ev_Clone (goC c (s, stk) (wl w)).2 (by omega)
      refine ⟨.own 0 0 0 (goC c (s, stk) (wl w)).2.length, _, [0], go_impl_GoOn (by simp) ?_, by simp [f0]; exact own_ints _ (by omega), goodN_ints _⟩
      simp at h4 h5 h6
      simp [ac_impl_GoOn, h1, h2, h3, h4, h5, h6, f0, f2, show ¬ 60 < stk.length by omega, show ¬ (60 : Int) < stk.length by omega]
  · have f0 : okFrom c s stk = false := by simp [okFrom, f2]
    refine ⟨.val (.slice none 0 0), [], [], go_impl_GoOn (by simp) ?_, by simp [f0]; exact own_nil, GoodN.nil⟩
    simp [ac_impl_GoOn, h1, h2, h3, f0, f2, show 60 < stk.length by omega, show (60 : Int) < stk.length by omega]
theorem ev_spec_GoOn (c : GChecker) (hz : Siz.size c ≤ 1048576) (s : Int) (stk : List Int) (hk : stk.length ≤ 1048576) (w : ByteArray) (hw : w.size ≤ 1048576) :
    ∃ b, ev fns i_spec_GoOn [c.v, i64 s, lst 1 stk, str w] [] = some (.tup [i64 (goOnA c s stk w).1, .list 1 ((goOnA c s stk w).2.1.map Enc.pv) b, i64 (goOnA c s stk w).2.2], []) := by
  have h1 := ev_spec_l02Given c hz w hw
  unfold goOnA
  by_cases c1 : (okCk c && okWord w) = true
  · have c1' := c1
    simp only [Bool.and_eq_true] at c1
    rw [if_pos c1] at h1
    rw [if_pos c1']
    obtain ⟨g1, g2, _⟩ := okCk_len c1.1
    simp only [inR, Bool.and_eq_true, decide_eq_true_eq] at g1 g2
    have w1 := wrap_i64 (n := (c.accept.length : Int) - 1) (by omega)
    have h3 := ev_spec_l02List stk c.stack stk.length (by omega) hk
    simp at h1 h3
    cases f1 : inR s 0 ((c.accept.length : Int) - 1)
    · have f0 : okFrom c s stk = false := by simp [okFrom, f1]
      refine ⟨true, go_spec_GoOn (by simp) ?_⟩
      simp [ac_spec_GoOn, h1, w1, f1, f0]
    by_cases f2 : stk.length ≤ 60
    · cases f3 : okSts c.stack stk.length stk
      · rw [f3] at h3
        have f0 : okFrom c s stk = false := by
          simp only [okSts, decide_true, Bool.true_and] at f3
          simp only [okFrom, f3, Bool.and_false]
        refine ⟨true, go_spec_GoOn (by simp) ?_⟩
        simp [ac_spec_GoOn, h1, h3, w1, f1, f0, f2, show ¬ 60 < stk.length by omega, show ¬ (60 : Int) < stk.length by omega]
      · rw [f3] at h3
        have f0 : okFrom c s stk = true := by
          simp only [okSts, decide_true, Bool.true_and] at f3
          simp only [okFrom, f1, f3, f2, decide_true, Bool.and_true]
        have ck := okFrom_ck f0
        have h5 := ev_spec_l02Go c c1.1 60 _ ck w (okWord_symW c1.2) (by have := okWord_le c1.2; omega)
        have h6 := ev_spec_l00Own stk (by omega)
        simp at h5 h6
        have h7 := cz_made (fns := fns) (f := i_spec_l00Own) (args := [lst 1 stk]) (r := (.own 0 0 0 stk.length, [.row 1 (stk.map Enc.pv) 0])) (q := lst 1 stk) (by simp [PV.bels]) (by simp [h6]) (by simp; omega)
        simp at h7
        refine ⟨false, go_spec_GoOn (by simp) ?_⟩
        simp [ac_spec_GoOn, h1, h3, h5, h7, w1, f1, f0, f2, show ¬ 60 < stk.length by omega, show ¬ (60 : Int) < stk.length by omega]
    · have f0 : okFrom c s stk = false := by simp [okFrom, f2]
      refine ⟨true, go_spec_GoOn (by simp) ?_⟩
      simp [ac_spec_GoOn, h1, w1, f1, f0, f2, show 60 < stk.length by omega, show (60 : Int) < stk.length by omega]
  · have c1' := c1
    simp only [Bool.and_eq_true] at c1
    rw [if_neg c1] at h1
    rw [if_neg c1']
    simp at h1
    refine ⟨true, go_spec_GoOn (by simp) ?_⟩
    simp [ac_spec_GoOn, h1]


/-! ### What the law's calls come to -/
@[simp] abbrev shC : Sh := .agg [.any, .any, .lst 1 .any, .lst 1 (.lst 2 .any), .lst 1 (.lst 1 (.lst 1 .any)), .lst 1 (.lst 1 .any)]
@[simp] abbrev shI : Sh := .lst 1 .any
theorem dep_Checker : Own.dep GChecker ≤ 9 := by decide
theorem dep_Int64S : Own.dep (List Int) ≤ 9 := by decide
theorem readC {σ : List AObj} {ids : List Nat} {p : PV} {x : GChecker} (h : OwnIn σ ids p x) : ∃ q, dfr σ 9 p = some q ∧ PV.ty shC q = Enc.pv x := h.read dep_Checker
theorem readI {σ : List AObj} {ids : List Nat} {p : PV} {x : List Int} (h : OwnIn σ ids p x) : ∃ q, dfr σ 9 p = some q ∧ PV.ty shI q = Enc.pv x := h.read dep_Int64S
theorem callG {α : Type} [Enc α] [Own α] {f : FuncId} {sz : α → Nat} (h : ToC fns f sz) (x : α) (hx : sz x ≤ 1048576) (σ : List AObj) (hg : Good σ) :
    ∃ p m ids, callN fns f [Enc.pv x] σ = some (p, σ ++ m) ∧ OwnIn (σ ++ m) ids p x ∧ (∀ i ∈ ids, σ.length ≤ i) ∧ Good (σ ++ m) := by
  obtain ⟨p, τ, ids, e1, e2, e3, e4⟩ := h x hx
  refine ⟨p.sh σ.length, τ.map (AObj.sh σ.length), ids.map (· + σ.length), ?_, e2.shift σ, fun i hi => ?_, hg.app e3.1⟩
  · rw [callN_made (by simp [PV.bels]) e1]; rfl
  · obtain ⟨j, _, rfl⟩ := List.mem_map.1 hi; omega
theorem goOn_call (c : GChecker) (hz : Siz.size c ≤ 1048576) (s : Int) (stk : List Int) (hk : stk.length ≤ 1048576) (w : ByteArray) (hw : w.size ≤ 1048576) (σ : List AObj) (hg : Good σ) {P u : PV} {ids idu : List Nat} (oP : OwnIn σ ids P c) (ou : OwnIn σ idu u stk) :
    ∃ p m ids', callT fns [shC, .any, shI, .any] i_impl_GoOn [P, i64 s, u, str w] σ = some (.tup [i64 (goOnA c s stk w).1, p, i64 (goOnA c s stk w).2.2], σ ++ m) ∧ OwnIn (σ ++ m) ids' p (goOnA c s stk w).2.1 ∧ Good (σ ++ m) ∧ (∀ i ∈ ids', σ.length ≤ i) := by
  obtain ⟨p, τ, ids', e, o, g⟩ := ev_impl_GoOn c hz s stk hk w hw
  obtain ⟨qP, dP, yP⟩ := readC oP
  obtain ⟨qu, du, yu⟩ := readI ou
  refine ⟨p.sh σ.length, τ.map (AObj.sh σ.length), ids'.map (· + σ.length), ?_, o.shift σ, hg.app g.1, fun i hi => ?_⟩
  · have := callT_read (fns := fns) (ss := [shC, .any, shI, .any]) (f := i_impl_GoOn) (args := [P, i64 s, u, str w]) (qs := [qP, i64 s, qu, str w]) (σ := σ) (by simp only [mapO, dP, du]; simp [dfr]) (by simp only [PV.tys, yP, yu]; exact e) ⟨by simp [PV.nl, PV.nls, Own.nl o.own], g.2⟩
    rw [this]
    simp [behind, PV.sh, PV.shs]
  · obtain ⟨j, _, rfl⟩ := List.mem_map.1 hi; omega
theorem eqI_call {σ : List AObj} {p : PV} {ids : List Nat} {l : List Int} (o : OwnIn σ ids p l) (hl : l.length ≤ 1048576) (b : Bool) : callT fns [shI, shI] i_laws_eqInt64S [p, .list 1 (l.map Enc.pv) b] σ = some (bol true, σ) := by
  obtain ⟨q, d, y⟩ := readI o
  have hy : PV.ty shI (.list 1 (l.map Enc.pv) b) = lst 1 l := by cases l <;> simp
  exact callT_readL (qs := [q, .list 1 (l.map Enc.pv) b]) (by simp only [mapO, d]; simp [dfr]) (by simp only [PV.tys, y, hy]; have := ev_laws_eqInt64S l l (by rw [Siz.size_flat_int]; exact hl); simpa using this) (by simp) (by simp [PV.nl])
theorem eqI_call2 {σ : List AObj} {p p' : PV} {ids ids' : List Nat} {l : List Int} (o : OwnIn σ ids p l) (o' : OwnIn σ ids' p' l) (hl : l.length ≤ 1048576) : callT fns [shI, shI] i_laws_eqInt64S [p, p'] σ = some (bol true, σ) := by
  obtain ⟨q, d, y⟩ := readI o
  obtain ⟨q', d', y'⟩ := readI o'
  exact callT_readL (qs := [q, q']) (by simp only [mapO, d, d']) (by simp only [PV.tys, y, y']; have := ev_laws_eqInt64S l l (by rw [Siz.size_flat_int]; exact hl); simpa using this) (by simp) (by simp [PV.nl])
theorem eqC_call2 {σ : List AObj} {p p' : PV} {ids ids' : List Nat} {c : GChecker} (o : OwnIn σ ids p c) (o' : OwnIn σ ids' p' c) (hz : Siz.size c ≤ 1048576) : callT fns [shC, shC] i_laws_eqChecker [p, p'] σ = some (bol true, σ) := by
  obtain ⟨q, d, y⟩ := readC o
  obtain ⟨q', d', y'⟩ := readC o'
  exact callT_readL (qs := [q, q']) (by simp only [mapO, d, d']) (by simp only [PV.tys, y, y']; have := ev_laws_eqChecker c c hz; simpa using this) (by simp) (by simp [PV.nl])
theorem heldI_call {σ : List AObj} {p : PV} {ids : List Nat} {l : List Int} (o : OwnIn σ ids p (mkF 1 (fun k => k) l 1)) (hl : l.length ≤ 1048576) : callT fns [shI, .any] i_laws_heldInt64S [p, i64 1] σ = some (i64 (1 + l.length), σ) := by
  obtain ⟨q, d, y⟩ := readI o
  have h := heldC_Int64S σ ids p l 1 o.own (by omega) (by dsimp only; omega)
  exact callT_readL (qs := [q, i64 1]) (by simp only [mapO, d]; simp [dfr]) (by simp only [PV.tys, y]; simpa using h) (by simp) (by simp [PV.nl])
theorem sumW_le {α : Type} [Siz α] {W : α → Nat} (h : ∀ y : α, W y ≤ 2 * Siz.size y) : ∀ xs : List α, sumW W xs ≤ 2 * Siz.size xs := by
  intro xs
  rw [Siz.size_list]
  induction xs with
  | nil => simp [sumW]
  | cons x xs ih => simp only [sumW, Siz.sum, List.length_cons]; have := h x; omega
theorem wChecker_le (x : GChecker) : wChecker x ≤ 2 * Siz.size x := by
  rw [size_Checker]
  unfold wChecker
  have h1 := Siz.len_le x.accept
  have h2 := sumW_le (W := fun xs : List GPush => 2 * xs.length) (fun y => by have := Siz.len_le y; (try dsimp only); omega) x.call
  have h3 := sumW_le (W := sumW (fun xs : List Int => 1 * xs.length)) (fun y => sumW_le (fun z => by have := Siz.len_le z; (try dsimp only); omega) y) x.ret
  have h4 := sumW_le (W := fun xs : List Int => 1 * xs.length) (fun y => by have := Siz.len_le y; (try dsimp only); omega) x.inner
  (try dsimp only)
  omega
theorem goOnA_len (c : GChecker) (s : Int) (stk : List Int) (w : ByteArray) : (goOnA c s stk w).2.1.length ≤ 1048576 := by
  unfold goOnA
  split
  · rename_i c1
    simp only [Bool.and_eq_true] at c1
    split
    · rename_i c2
      have := (goC_ok c1.1 (wl w) 60 _ (okFrom_ck c2) (okWord_symW c1.2)).ln
      have := okWord_le c1.2
      simp at *; omega
    · simp
  · simp

theorem cz_own {α : Type} [Enc α] [Own α] {f : FuncId} {sz : α → Nat} (h : ToC fns f sz) (x : α) (hx : sz x ≤ 1048576) (hd : Own.dep α ≤ 9) (hc : ∀ r, callN fns f [Enc.pv x] [] = some r → callV fns (ev fns) (.val (.func (.func f) #[] #[])) [Enc.pv x] [] = some r) :
    ∃ q, q.bel 0 = true ∧ PV.ty (Own.sh α) q = Enc.pv x ∧ ∀ σ, cz true (callV fns (ev fns)) (.val (.func (.func f) #[] #[])) [Enc.pv x] σ = some (q, σ) := by
  obtain ⟨p, τ, ids, a1, o1, _⟩ := h.callS x hx [] GoodN.nil
  obtain ⟨q, d, y⟩ := o1.read hd
  exact ⟨q, dfr_bel d, y, cz_made (by simp [PV.bels]) (hc _ a1) d⟩
set_option maxHeartbeats 8000000 in
theorem ev_FnExactGoOn (a : GChecker) (s : Int) (t : List Int) (w : ByteArray) (fa : Siz.fits a) (fs : Siz.fits s) (ft : Siz.fits t) (fw : Siz.fits w) : ev fns i_laws_FnExactGoOn [a.v, i64 s, lst 1 t, str w] [] = some (bol true, []) := by
  refine go_laws_FnExactGoOn (by simp) ?_
  by_cases ct : (t.length : Int) ≤ 1048576
  · by_cases cw : (w.size : Int) ≤ 1048576
    · have e1 := ev_laws_szChecker a 1048576 (by omega) (by omega) fa
      by_cases c1 : (Siz.size a : Int) ≤ 1048576
      · rw [szR_ok c1] at e1
        have s1 := fun σ => callN_lone (σ := σ) (by simp [PV.bels]) e1 (by simp)
        have hsa : Siz.size a ≤ 1048576 := by omega
        have hst : Siz.size t ≤ 1048576 := by rw [Siz.size_flat_int]; omega
        have hl := goOnA_len a s t w
        have hW := wChecker_le a
        -- the reference
        obtain ⟨q1, b1, y1, z1⟩ := cz_own toC_Checker a hsa dep_Checker (fun r h => by simp [-callN, -callT] at h ⊢; exact h)
        obtain ⟨q2, b2, y2, z2⟩ := cz_own toC_Int64S t hst dep_Int64S (fun r h => by simp [-callN, -callT] at h ⊢; exact h)
        replace y1 : PV.ty shC q1 = a.v := y1
        replace y2 : PV.ty shI q2 = lst 1 t := y2
        obtain ⟨b, e3⟩ := ev_spec_GoOn a hsa s t (by omega) w (by omega)
        have s3 := fun σ => callT_loneT (σ := σ) (fns := fns) (f := i_spec_GoOn) (ss := [shC, .any, shI, .any]) (args := [q1, i64 s, q2, str w]) (by simp [PV.bels, b1, b2]) (by simp only [PV.tys, y1, y2]; rfl) e3 (by simp)
        -- the program
        obtain ⟨p1, m1, ids1, a1, o1, _, g1⟩ := callG toC_Checker a hsa [] GoodN.nil.1
        obtain ⟨i0, r0, i1, r1, i2, r2, i3, r3, i4, r4, i5, r5, rfl, rfl, ⟨rfl, rfl⟩, ⟨rfl, rfl⟩, h2, h3, h4, h5⟩ := o1.own
        have kn2 := (own_one h2).2.2.2
        have kn3 := (own_one h3).2.2.2
        have kn4 := (own_one h4).2.2.2
        have kn5 := (own_one h5).2.2.2
        rw [List.nil_append] at a1 o1 g1
        generalize hP : PV.agg [Enc.pv a.stack, Enc.pv a.start, r2, r3, r4, r5] = P at *
        have g2 : Good (m1 ++ [.row 6 [P] 0]) := by
          unfold Good
          rw [List.length_append]
          refine objsBel_app (objsBel_mono (by omega) g1) ?_
          simp only [objsBel, PV.bels, Bool.and_true]
          exact PV.bel_le (by omega) o1.bel
        have o2 := o1.grow [.row 6 [P] 0]
        obtain ⟨u, m3, idu, a3, ou3, du3, g3⟩ := callG toC_Int64S t hst _ g2
        have o3 := o2.grow m3
        have y3 : ((m1 ++ [.row 6 [P] 0]) ++ m3)[m1.length]? = some (.row 6 [P] 0) := by rw [List.getElem?_append_left (by simp)]; simp
        generalize h3e : (m1 ++ [.row 6 [P] 0]) ++ m3 = σ3 at *
        obtain ⟨p4, m4, ids4, a4, o4, g4, d4⟩ := goOn_call a hsa s t (by omega) w (by omega) σ3 g3 o3 ou3
        have oP4 := o3.grow m4
        have ou4 := ou3.grow m4
        have y4 : (σ3 ++ m4)[m1.length]? = some (.row 6 [P] 0) := by rw [List.getElem?_append_left (by rw [← h3e]; simp <;> omega)]; exact y3
        generalize h4e : σ3 ++ m4 = σ4 at *
        have s4 := eqI_call o4 hl b
        obtain ⟨p5, m5, ids5, a5, o5, _, g5⟩ := callG toC_Checker a hsa σ4 g4
        have oP5 := oP4.grow m5
        have ou5 := ou4.grow m5
        have op5 := o4.grow m5
        have hl34 : σ3.length ≤ σ4.length := by rw [← h4e]; simp
        have hm1 : m1.length < σ3.length := by rw [← h3e]; simp <;> omega
        have y5 : (σ4 ++ m5)[m1.length]? = some (.row 6 [P] 0) := by rw [List.getElem?_append_left (by omega)]; exact y4
        have s5 := eqC_call2 oP5 o5 hsa
        generalize h5e : σ4 ++ m5 = σ5 at *
        obtain ⟨p6, m6, ids6, a6, o6, _, g6⟩ := callG toC_Int64S t hst σ5 g5
        have oP6 := oP5.grow m6
        have ou6 := ou5.grow m6
        have op6 := op5.grow m6
        have hl45 : σ4.length ≤ σ5.length := by rw [← h5e]; simp
        have y6 : (σ5 ++ m6)[m1.length]? = some (.row 6 [P] 0) := by rw [List.getElem?_append_left (by omega)]; exact y5
        have s6 := eqI_call2 ou6 o6 (by omega)
        generalize h6e : σ5 ++ m6 = σ6 at *
        -- ids apart
        have iP : ∀ i ∈ ([] ++ [] ++ i2 ++ i3 ++ i4 ++ i5), i < m1.length := o1.lt
        have iu : ∀ i ∈ idu, m1.length + 1 ≤ i := by simpa using du3
        have iu2 : ∀ i ∈ idu, i < σ3.length := ou3.lt
        obtain ⟨σ7, a7, oP7, l7, k7, g7, _⟩ := markC_Checker σ6 _ P a 1 oP6 g6 (by omega) (by omega)
        have ou7 := ou6.keep l7 fun i hi => k7 i fun hj => by have := iP i hj; have := iu i hi; omega
        have op7 := op6.keep l7 fun i hi => k7 i fun hj => by have := iP i hj; have := d4 i hi; omega
        obtain ⟨σ8, a8, ou8, l8, k8, g8, _⟩ := markC_Int64S σ7 idu u t (1 + wChecker a) ou7 g7 (by omega) (by (try dsimp only); omega)
        have op8 := op7.keep l8 fun i hi => k8 i fun hj => by have := iu2 i hj; have := d4 i hi; omega
        have s8 := eqI_call op8 hl b
        obtain ⟨σ9, a9, op9, l9, k9, g9, _⟩ := markC_Int64S σ8 ids4 p4 _ 1 op8 g8 (by omega) (by (try dsimp only); omega)
        have s9 := heldI_call op9 hl
        obtain ⟨p10, m10, ids10, a10, o10, _, g10⟩ := callG toC_Checker a hsa σ9 g9
        have op10 := op9.grow m10
        generalize h10e : σ9 ++ m10 = σ10 at *
        obtain ⟨u11, m11, idu11, a11, ou11, _, g11⟩ := callG toC_Int64S t hst σ10 g10
        have op11 := op10.grow m11
        have o11 := o10.grow m11
        generalize h11e : σ10 ++ m11 = σ11 at *
        obtain ⟨p12, m12, ids12, a12, o12, g12, _⟩ := goOn_call a hsa s t (by omega) w (by omega) σ11 g11 o11 ou11
        have op12 := op11.grow m12
        generalize h12e : σ11 ++ m12 = σ12 at *
        have s12 := eqI_call o12 hl b
        have s13 := heldI_call op12 hl
        unfold Good at g3 g4 g5 g6 g7 g8 g9 g10 g11 g12
        have w0 : ¬ ((1 : Int) + wChecker a + t.length < 0) := by omega
        have w1 : ¬ ((1 : Int) + (goOnA a s t w).2.1.length < 0) := by omega
        subst hP
        simp [-callN, -callT] at s1 z1 z2 s3 a1 kn2 kn3 kn4 kn5 a3 y3 a4 y4 s4 a5 y5 s5 a6 y6 s6 a7 a8 s8 a9 s9 a10 a11 a12 s12 s13
        simp [-callN, -callT, ac_laws_FnExactGoOn, ct, cw, show ¬ 1048576 < (w.size : Int) by omega, show ¬ 1048576 < w.size by omega, show ¬ 1048576 < (t.length : Int) by omega, show ¬ 1048576 < t.length by omega, show ¬ ((1048576 : Int) - Siz.size a < 0) by omega, s1, z1, z2, s3, a1, kn2, kn3, kn4, kn5, a3, y3, a4, y4, s4, a5, y5, s5, a6, y6, s6, a7, a8, s8, a9, s9, a10, a11, a12, s12, s13, w0, w1, g3, g4, g5, g6, g7, g8, g9, g10, g11, g12]
        done
      · rw [szR_no (by omega)] at e1
        have s1 := fun σ => callN_lone (σ := σ) (by simp [PV.bels]) e1 (by simp)
        simp [-callN, -callT] at s1
        simp [-callN, -callT, ac_laws_FnExactGoOn, ct, cw, show ¬ 1048576 < (w.size : Int) by omega, show ¬ 1048576 < w.size by omega, show ¬ 1048576 < (t.length : Int) by omega, show ¬ 1048576 < t.length by omega, s1]
    · simp [ac_laws_FnExactGoOn, ct, show ¬ 1048576 < (t.length : Int) by omega, show ¬ 1048576 < t.length by omega, show 1048576 < (w.size : Int) by omega, show 1048576 < w.size by omega]
  · simp [ac_laws_FnExactGoOn, show 1048576 < (t.length : Int) by omega, show 1048576 < t.length by omega]
end Go.Proofs.Ytegjfjckijmgcaa
