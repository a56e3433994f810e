/- One edit after the other: the program's and the reference's; the law FnExactEditTrees, run. -/
import Derived.Test.YtlahdcofclkjjaaEditTree
import Derived.Test.YtlahdcofclkjjaaLoops2
import Derived.Test.YtlahdcofclkjjaaSls
set_option linter.unusedVariables false
set_option linter.unusedSimpArgs false
set_option maxRecDepth 100000
namespace Go.Proofs.Ytlahdcofclkjjaa
open Aw

theorem orLim_ok {x : ByteArray} (h : (orLim x).2 = 0) : okWord (orLim x).1 = true := by
  unfold orLim at h ⊢
  cases hx : okWord x <;> simp [hx] at h ⊢
theorem brk_cut {t : ByteArray} (h : isBrk t = true) (i j : Nat) : allSym (wl (t.extract i j)) = true := by rw [wl_extract]; exact allSym_cut (brk_sym h) i j
theorem allSym_emp : allSym (wl emp) = true := rfl
theorem putA_ok {w : ByteArray} {i : Int} {u : ByteArray} : (putA w i u).2 = 0 → okWord (putA w i u).1 = true := by
  unfold putA
  repeat' split
  · exact orLim_ok
  all_goals (intro h; simp at h)
/-- What an edit makes of a word is a word. -/
theorem made_ok {w : ByteArray} {e : GTreeEdit} (hw : okWord w = true) (he : okEdit e = true) (hc : (madeA w e).2 = 0) : okWord (madeA w e).1 = true := by
  have hs := okWord_size hw
  simp only [okEdit, Bool.and_eq_true] at he
  obtain ⟨⟨⟨⟨h1, h2⟩, h3⟩, h4⟩, h5⟩ := he
  unfold madeA at hc ⊢
  by_cases k1 : e.kind = 1
  · rw [if_pos k1] at hc ⊢
    exact putA_ok hc
  rw [if_neg k1] at hc ⊢
  by_cases k2 : e.kind = 2
  · rw [if_pos k2] at hc ⊢
    unfold cutA at hc ⊢
    by_cases hb : (bodyA w e.at_).2 = 0
    · rw [if_pos hb]
      rw [okWord_of (by rw [wl_append, allSym_append, allSym_cut' hw, allSym_cut' hw]; rfl)]
      obtain ⟨n, p, en, hp, g1, g2, g3⟩ := bodyA_ok hb
      simp; rw [hp, en]; simp; omega
    · rw [if_neg hb] at hc; simp at hc; exact absurd hc hb
  rw [if_neg k2] at hc ⊢
  by_cases k4 : e.kind = 4
  · rw [if_pos k4] at hc ⊢
    by_cases q1 : e.at_ ≤ e.to ∧ e.to ≤ w.size
    · rw [if_pos q1] at hc ⊢
      by_cases q2 : isM (w.extract e.at_.toNat e.to.toNat) = true
      · rw [if_pos q2] at hc ⊢; exact orLim_ok hc
      · rw [if_neg q2] at hc; simp at hc
    · rw [if_neg q1] at hc; simp at hc
  rw [if_neg k4] at hc ⊢
  by_cases hb : (bodyA w e.at_).2 = 0
  · rw [if_pos hb]
    obtain ⟨n, p, en, hp, g1, g2, g3⟩ := bodyA_ok hb
    have hf : allSym (wl (frA e)) = true ∧ allSym (wl (bkA e)) = true ∧ (frA e).size + (bkA e).size ≤ 2 := by
      unfold frA bkA
      by_cases k5 : e.kind = 5
      · simp only [k5, if_true]
        simp [k5] at h5
        refine ⟨brk_cut h5 _ _, brk_cut h5 _ _, ?_⟩
        have := isBrk_size h5
        simp; omega
      · simp only [k5, if_false]; exact ⟨allSym_emp, allSym_emp, by decide⟩
    rw [okWord_of (by simp only [wl_append, allSym_append, allSym_cut' hw, hf.1, hf.2.1]; rfl)]
    simp; rw [hp, en]; simp; omega
  · rw [if_neg hb] at hc; simp at hc; exact absurd hc hb

def editStep (s : ByteArray × Int) (e : GTreeEdit) : ByteArray × Int := if (madeA s.1 e).2 = 0 then ((madeA s.1 e).1, s.2 + 1) else s
def editsA (w : ByteArray) (l : List GTreeEdit) : (ByteArray × Int) × Int :=
  if okWord w = true ∧ l.all okEdit = true then
    if l.length ≤ 60 then (l.foldl editStep (w, 0), 0) else ((emp, 0), 2)
  else ((emp, 0), 1)

theorem ev_impl_EditTrees (w : ByteArray) (l : List GTreeEdit) (hw : w.size ≤ 1048576) (hl : Siz.size l ≤ 1048576) : ev fns i_impl_EditTrees [str w, lst 4 l] [] = some (.tup [str (editsA w l).1.1, i64 (editsA w l).1.2, i64 (editsA w l).2], []) := by
  refine go_impl_EditTrees (by simp) ?_
  have hll := Siz.len_le l
  have v1 := ev_impl_ValidWord w (by omega)
  simp at v1
  unfold editsA
  cases h1 : okWord w
  · simp [h1] at v1; simp [ac_impl_EditTrees, v1]
  simp [h1] at v1
  have hz : ∀ e ∈ l, e.text.size ≤ 1048576 := fun e he => by
    have := Siz.mem_le he
    rw [size_TreeEdit, size_str] at this; omega
  have hc := ev_ContainsFuncV_TreeEdit l (.val (.func (.func i_impl_EditTrees_1) #[] #[])) (by simp) (fun e => !okEdit e) (by omega) (fun e he => by
    have v2 := ev_impl_ValidTreeEdit e (hz e he)
    simp at v2
    have : ev fns i_impl_EditTrees_1 [e.v] [] = some (bol (!okEdit e), []) := by
      refine go_impl_EditTrees_1 (by simp) ?_
      simp [ac_impl_EditTrees_1, v2]
    simp at this
    simp [this])
  simp [any_not_all] at hc
  cases h2 : l.all okEdit
  · simp [h2] at hc
    simp [ac_impl_EditTrees, v1, hc]
  simp [h2] at hc
  by_cases h3 : l.length ≤ 60
  rotate_left
  · simp [ac_impl_EditTrees, v1, hc, show (60 : Int) < l.length by omega, h3]
  have h2' := List.all_eq_true.1 h2
  have lo := fun ks => loop_fold (F := fun k (s : ByteArray × Int) => rE fns fa_impl_EditTrees 0 (.code lo_impl_EditTrees_0 :: .inBlock 1 :: ks) [(26, i64 (k : Nat)), (25, i64 l.length), (24, lst 4 l), (7, i64 s.2), (0, str s.1)] []) (ls := l) (f := editStep) (fun k s => okWord s.1 = true ∧ 0 ≤ s.2 ∧ s.2 ≤ k)
    (fun k s h hI => by
      have hw := wrap_i64 (n := k + 1) (by omega)
      have hw2 := wrap_i64 (n := s.2 + 1) (by omega)
      have hm := List.getElem_mem h
      have v := ev_impl_editTree s.1 l[k] hI.1 (h2' _ hm) (hz _ hm)
      simp at v
      rw [l_impl_EditTrees_0]
      unfold editStep
      by_cases c : (madeA s.1 l[k]).2 = 0
      · refine ⟨?_, ?_⟩
        · simp [lb_impl_EditTrees_0, h, hw, hw2, v, c]
        · rw [if_pos c]; exact ⟨made_ok hI.1 (h2' _ hm) c, by simp; omega, by simp; omega⟩
      · refine ⟨?_, ?_⟩
        · simp [lb_impl_EditTrees_0, h, hw, v, c]
        · rw [if_neg c]; exact ⟨hI.1, hI.2.1, by have := hI.2.2; omega⟩)
    (s := (w, 0)) ⟨h1, by simp, by simp⟩
  have lo := fun ks => (lo ks).1
  simp at lo
  simp [ac_impl_EditTrees, v1, hc, show ¬ (60 : Int) < l.length by omega, h3, lo]
  rw [l_impl_EditTrees_0]
  simp [lb_impl_EditTrees_0]

theorem ev_spec_EditTrees (w : ByteArray) (l : List GTreeEdit) (hw : w.size ≤ 1048576) (hl : Siz.size l ≤ 1048576) : ev fns i_spec_EditTrees [str w, lst 4 l] [] = some (.tup [str (editsA w l).1.1, i64 (editsA w l).1.2, i64 (editsA w l).2], []) := by
  refine go_spec_EditTrees (by simp) ?_
  have hll := Siz.len_le l
  have v1 := ev_spec_l01Ok w (by omega)
  simp at v1
  unfold editsA
  have hz : ∀ e ∈ l, e.text.size ≤ 1048576 := fun e he => by
    have := Siz.mem_le he
    rw [size_TreeEdit, size_str] at this; omega
  have lo1 := fun ks => loop_fold (F := fun k (s : Bool) => rE fns fa_spec_EditTrees 0 (.code lo_spec_EditTrees_0 :: .inBlock 0 :: ks) [(8, i64 (k : Nat)), (7, bol s), (1, lst 4 l), (0, str w)] []) (ls := l) (f := fun s e => s && okEdit e) (fun _ _ => True)
    (fun k s h _ => by
      refine ⟨?_, trivial⟩
      cases s with
      | false =>
        have ex : ∀ (k : Nat), k ≤ l.length → rE fns fa_spec_EditTrees 0 (.code lo_spec_EditTrees_0 :: .inBlock 0 :: ks) [(8, i64 (k : Nat)), (7, bol false), (1, lst 4 l), (0, str w)] [] = rE fns fa_spec_EditTrees 0 ks [(7, bol false), (1, lst 4 l), (0, str w)] [] := by
          intro k hk
          rw [l_spec_EditTrees_0]
          by_cases c : k < l.length <;> simp [lb_spec_EditTrees_0, c]
        have e1 := ex k (by omega)
        have e2 := ex (k + 1) (by omega)
        simp at e1 e2 ⊢
        rw [e1, e2]
      | true =>
        have hw := wrap_i64 (n := k + 1) (by omega)
        have hm := List.getElem_mem h
        have v := ev_spec_l06Edit l[k] (hz _ hm)
        simp at v
        rw [l_spec_EditTrees_0]
        simp [lb_spec_EditTrees_0, h, hw, v])
    (s := okWord w) trivial
  have lo1 := fun ks => (lo1 ks).1
  have hfold : ∀ (l : List GTreeEdit) (b : Bool), l.foldl (fun s e => s && okEdit e) b = (b && l.all okEdit) := by
    intro l
    induction l with
    | nil => intro b; simp
    | cons x l ih => intro b; simp [ih, Bool.and_assoc]
  rw [hfold] at lo1
  have ex1 : ∀ (ks : List KI) (b : Bool), rE fns fa_spec_EditTrees 0 (.code lo_spec_EditTrees_0 :: .inBlock 0 :: ks) [(8, i64 (l.length : Nat)), (7, bol b), (1, lst 4 l), (0, str w)] [] = rE fns fa_spec_EditTrees 0 ks [(7, bol b), (1, lst 4 l), (0, str w)] [] := by
    intro ks b
    rw [l_spec_EditTrees_0]
    simp [lb_spec_EditTrees_0]
  have lo1 : ∀ ks, _ := fun ks => (lo1 ks).trans (ex1 ks _)
  simp at lo1
  cases h1 : okWord w && l.all okEdit
  · simp [h1] at lo1
    have hn : ¬ (okWord w = true ∧ l.all okEdit = true) := by simpa using h1
    rw [if_neg hn]
    simp [ac_spec_EditTrees, v1, lo1]
  simp [h1] at lo1
  have h1' := h1
  simp only [Bool.and_eq_true] at h1'
  rw [if_pos h1']
  by_cases h3 : l.length ≤ 60
  rotate_left
  · simp [ac_spec_EditTrees, v1, lo1, show (60 : Int) < l.length by omega, h3]
  have h2' := List.all_eq_true.1 h1'.2
  have lo := fun ks => loop_fold (F := fun k (s : ByteArray × Int) => rE fns fa_spec_EditTrees 0 (.code lo_spec_EditTrees_1 :: .inBlock 2 :: ks) [(10, i64 (k : Nat)), (9, i64 s.2), (1, lst 4 l), (0, str s.1)] []) (ls := l) (f := editStep) (fun k s => okWord s.1 = true ∧ 0 ≤ s.2 ∧ s.2 ≤ k)
    (fun k s h hI => by
      have hw := wrap_i64 (n := k + 1) (by omega)
      have hw2 := wrap_i64 (n := s.2 + 1) (by omega)
      have hm := List.getElem_mem h
      have v := ev_spec_l06Made s.1 l[k] hI.1 (h2' _ hm) (hz _ hm)
      simp at v
      rw [l_spec_EditTrees_1]
      unfold editStep
      by_cases c : (madeA s.1 l[k]).2 = 0
      · refine ⟨?_, ?_⟩
        · simp [lb_spec_EditTrees_1, h, hw, hw2, v, c]
        · rw [if_pos c]; exact ⟨made_ok hI.1 (h2' _ hm) c, by simp; omega, by simp; omega⟩
      · refine ⟨?_, ?_⟩
        · simp [lb_spec_EditTrees_1, h, hw, v, c]
        · rw [if_neg c]; exact ⟨hI.1, hI.2.1, by have := hI.2.2; omega⟩)
    (s := (w, 0)) ⟨h1'.1, by simp, by simp⟩
  have lo := fun ks => (lo ks).1
  simp at lo
  simp [ac_spec_EditTrees, v1, lo1, show ¬ (60 : Int) < l.length by omega, h3, lo]
  rw [l_spec_EditTrees_1]
  simp [lb_spec_EditTrees_1]

theorem ev_FnExactEditTrees (w : ByteArray) (a : List GTreeEdit) (fw : Siz.fits w) (fa : Siz.fits a) : ev fns i_laws_FnExactEditTrees [str w, lst 4 a] [] = some (bol true, []) := by
  refine go_laws_FnExactEditTrees (by simp) ?_
  by_cases hw : w.size ≤ 1048576
  rotate_left
  · simp [ac_laws_FnExactEditTrees, show ((1048576 : Int) < w.size) by omega]
  have e1 := ev_laws_szTreeEditS a 1048576 (by omega) (by omega) fa
  by_cases c1 : (Siz.size a : Int) ≤ 1048576
  · rw [szR_ok c1] at e1
    have h1 := ev_laws_toTreeEditS a (by omega)
    have h3 := ev_spec_EditTrees w a hw (by omega)
    have h4 := ev_impl_EditTrees w a hw (by omega)
    have h5 := ev_laws_eqTreeEditS a a (by omega)
    simp at e1 h1 h3 h4 h5
    simp [ac_laws_FnExactEditTrees, e1, show ¬ ((1048576 : Int) < w.size) by omega, show ¬ ((1048576 : Int) - Siz.size a < 0) by omega, h1, h3, h4, h5]
  · rw [szR_no (by omega)] at e1
    simp at e1
    simp [ac_laws_FnExactEditTrees, e1, show ¬ ((1048576 : Int) < w.size) by omega]
end Go.Proofs.Ytlahdcofclkjjaa
