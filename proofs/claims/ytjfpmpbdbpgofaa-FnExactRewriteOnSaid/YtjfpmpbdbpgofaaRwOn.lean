/- Rewriters' runs from a state and a stack: the program's RewriteOn. -/
import Derived.Test.YtjfpmpbdbpgofaaRwSpec
import Derived.Test.YtjfpmpbdbpgofaaLwC
set_option linter.unusedVariables false
set_option linter.unusedSimpArgs false
set_option maxRecDepth 100000
namespace Go.Proofs.Ytjfpmpbdbpgofaa
open Aw
def okFromR (r : GRewriter) (s : Int) (stk : List Int) : Bool := inR s 0 ((r.call.length : Int) - 1) && decide (stk.length ≤ 60) && stk.all (fun m => inR m 0 (r.stack - 1))
theorem okFromR_I {r : GRewriter} {s : Int} {stk : List Int} (h : okFromR r s stk = true) : RwI r 60 (s, stk, ⟨#[]⟩) := by
  simp only [okFromR, Bool.and_eq_true, decide_eq_true_eq, List.all_eq_true] at h
  exact ⟨h.1.1, h.2, h.1.2, Nat.zero_le _⟩
abbrev gR (r : GRewriter) (s : Int) (stk : List Int) (w : ByteArray) : RSt := goF r (s, stk, ⟨#[]⟩) w
/-- What a rewriter answers from a state and a stack. -/
def onR (r : GRewriter) (s : Int) (stk : List Int) (w : ByteArray) : RSt × Int :=
  if okRw r = true then
    if okWord w = true then
      if okFromR r s stk = true then
        if (gR r s stk w).2.1.length ≤ 60 ∧ (gR r s stk w).2.2.size ≤ 60 then (gR r s stk w, 0) else ((0, [], ⟨#[]⟩), 3)
      else ((0, [], ⟨#[]⟩), 2)
    else ((0, [], ⟨#[]⟩), 1)
  else ((0, [], ⟨#[]⟩), 1)
theorem onR_len (r : GRewriter) (s : Int) (stk : List Int) (w : ByteArray) : (onR r s stk w).1.2.1.length ≤ 60 := by
  unfold onR
  split
  · split
    · split
      · split
        · rename_i h; exact h.1
        · simp
      · simp
    · simp
  · simp
theorem leC_RewriteOn (r : GRewriter) (hr : Siz.size r ≤ 1048576) (q : Int) (stk : List Int) (hs : Siz.size stk ≤ 1048576) (w : ByteArray) (hw : w.size ≤ 1048576) : Siz.size (onR r q stk w).1.2.1 ≤ 1048576 := by
  rw [Siz.size_flat_int]; have := onR_len r q stk w; omega
theorem any_not_allR (l : List Int) (f : Int → Bool) : l.any (fun m => !f m) = !l.all f := by
  induction l with
  | nil => rfl
  | cons a l ih => simp [ih]
theorem imC_RewriteOn (r : GRewriter) (hr : Siz.size r ≤ 1048576) (q : Int) (stk : List Int) (hk : Siz.size stk ≤ 1048576) (w : ByteArray) (hw : w.size ≤ 1048576) :
    ∃ p τ ids, ev fns i_impl_RewriteOn [r.v, i64 q, lst 1 stk, str w] [] = some (.tup [i64 (onR r q stk w).1.1, p, str (onR r q stk w).1.2.2, i64 (onR r q stk w).2], τ) ∧ OwnIn τ ids p (onR r q stk w).1.2.1 ∧ GoodN τ := by
  rw [Siz.size_flat_int] at hk
  have h1 := ev_impl_ValidRewriter r hr
  have h2 := ev_impl_ValidWord w (by omega)
  simp at h1 h2
  unfold onR
  cases c1 : okRw r
  · rw [c1] at h1
    refine ⟨.val (.slice none 0 0), [], [], go_impl_RewriteOn (by simp) ?_, own_nilL, GoodN.nil⟩
    simp [ac_impl_RewriteOn, h1]
    done
  rw [c1] at h1
  cases c2 : okWord w
  · rw [c2] at h2
    refine ⟨.val (.slice none 0 0), [], [], go_impl_RewriteOn (by simp) ?_, own_nilL, GoodN.nil⟩
    simp [ac_impl_RewriteOn, h1, h2]
    done
  rw [c2] at h2
  obtain ⟨g1, g2, _⟩ := okRw_len c1
  have g1' := g1
  have g2' := g2
  simp only [inR, Bool.and_eq_true, decide_eq_true_eq] at g1' g2'
  have w1 := wrap_i64 (n := (r.call.length : Int) - 1) (by omega)
  have w2 := wrap_i64 (n := r.stack - 1) (by omega)
  have h0 := ev_size_OPS r.call
  simp at h0
  have h3 := fun (x hi : Int) => ev_impl_within x 0 hi
  have h4 := ev_ContainsFunc_Int64 stk i_impl_RewriteOn_1 [RwF r] (by simp) (fun m => !inR m 0 (r.stack - 1)) (by omega) (fun m hm => by
    have v := ev_impl_within m 0 (r.stack - 1)
    simp at v
    have : ev fns i_impl_RewriteOn_1 [i64 m, RwF r] [] = some (bol (!inR m 0 (r.stack - 1)), []) := by
      refine go_impl_RewriteOn_1 (by simp) ?_
      simp [ac_impl_RewriteOn_1, v, w2]
    simp at this
    simp [this])
  simp [any_not_allR] at h3 h4
  cases f1 : inR q 0 ((r.call.length : Int) - 1)
  · have f0 : okFromR r q stk = false := by simp [okFromR, f1]
    refine ⟨.val (.slice none 0 0), [], [], go_impl_RewriteOn (by simp) ?_, by simp [f0]; exact own_nilL, GoodN.nil⟩
    simp [ac_impl_RewriteOn, h0, h1, h2, h3, w1, f1, f0]
    done
  by_cases f2 : stk.length ≤ 60
  · cases f3 : stk.all (fun m => inR m 0 (r.stack - 1))
    · rw [f3] at h4
      have f0 : okFromR r q stk = false := by simp only [okFromR, f3, Bool.and_false]
      refine ⟨.val (.slice none 0 0), [], [], go_impl_RewriteOn (by simp) ?_, by simp [f0]; exact own_nilL, GoodN.nil⟩
      simp at h4
      simp [ac_impl_RewriteOn, h0, h1, h2, h3, h4, w1, f1, f0, f2, show ¬ 60 < stk.length by omega, show ¬ (60 : Int) < stk.length by omega]
      done
    · rw [f3] at h4
      have f0 : okFromR r q stk = true := by simp only [okFromR, f1, f3, f2, decide_true, Bool.and_true]
      have hI := okFromR_I f0
      have ok := goF_all c1 (okWord_symR c2) hI emp_sym
      have hw6 := okWord_leR c2
      have hln := ok.2.ln
      have hsz := ok.2.sz
      have h5 := ev_rewrite r c1 w (okWord_symR c2) (by omega) q stk 60 (by omega) hI (lst 1 stk) (by simp [PV.bel]) (ev_CloneL stk (by omega))
      obtain ⟨G, hG⟩ : ∃ G, G = gR r q stk w := ⟨_, rfl⟩
      unfold gR at hG
      unfold gR
      rw [← hG] at hln hsz h5 ⊢
      obtain ⟨q2, st, out⟩ := G
      simp only at hln hsz
      simp only [f0, if_true]
      by_cases L1 : st.length ≤ 60
      · by_cases L2 : out.size ≤ 60
        · rw [if_pos ⟨L1, L2⟩]
          refine ⟨.own 0 0 0 st.length, _, [0], go_impl_RewriteOn (by simp) ?_, own_intsL _ (by omega), goodN_intsL _⟩
          simp at h4 h5
          simp [ac_impl_RewriteOn, h0, h1, h2, h3, h4, h5, w1, f1, f2, L1, L2, show ¬ 60 < stk.length by omega, show ¬ (60 : Int) < stk.length by omega, show ¬ (60 : Int) < st.length by omega, show ¬ (60 : Int) < out.size by omega]
          done
        · rw [if_neg (fun h => L2 h.2)]
          refine ⟨.val (.slice none 0 0), [], [], go_impl_RewriteOn (by simp) ?_, own_nilL, GoodN.nil⟩
          simp at h4 h5
          simp [ac_impl_RewriteOn, h0, h1, h2, h3, h4, h5, w1, f1, f2, L1, L2, show ¬ 60 < stk.length by omega, show ¬ (60 : Int) < stk.length by omega, show ¬ (60 : Int) < st.length by omega, show (60 : Int) < out.size by omega]
          done
      · rw [if_neg (fun h => L1 h.1)]
        refine ⟨.val (.slice none 0 0), [], [], go_impl_RewriteOn (by simp) ?_, own_nilL, GoodN.nil⟩
        simp at h4 h5
        simp [ac_impl_RewriteOn, h0, h1, h2, h3, h4, h5, w1, f1, f2, L1, show ¬ 60 < stk.length by omega, show ¬ (60 : Int) < stk.length by omega, show (60 : Int) < st.length by omega]
        done
  · have f0 : okFromR r q stk = false := by simp [okFromR, f2]
    refine ⟨.val (.slice none 0 0), [], [], go_impl_RewriteOn (by simp) ?_, by simp [f0]; exact own_nilL, GoodN.nil⟩
    simp [ac_impl_RewriteOn, h0, h1, h2, h3, w1, f1, f0, f2, show 60 < stk.length by omega, show (60 : Int) < stk.length by omega]
    done
theorem tyI0 : PV.ty (Own.sh (List Int)) (.list 1 [] true) = Enc.pv ([] : List Int) := by
  show PV.ty (.lst 1 .any) _ = _
  simp
theorem tyIL (l : List Int) : PV.ty (Own.sh (List Int)) (.list 1 (l.map Enc.pv) false) = Enc.pv l := by
  show PV.ty (.lst 1 .any) _ = _
  cases l <;> simp
theorem nls_ints (l : List Int) : PV.nls (l.map Enc.pv) = true := by
  rw [PV.nls_iff]
  intro p hp
  obtain ⟨y, _, rfl⟩ := List.mem_map.1 hp
  simp [PV.nl]
theorem lo_on (r : GRewriter) (q : Int) (w : ByteArray) (hS : inR r.stack 1 8 = true) (stk : List Int) (hk : stk.length ≤ 1000) (ks : List KI) :
    rE fns fa_spec_RewriteOn 0 (.code lo_spec_RewriteOn_0 :: .inBlock 0 :: ks) [(13, i64 0), (12, bol true), (4, RwF r), (3, str w), (2, lst 1 stk), (1, i64 q)] [] =
      rE fns fa_spec_RewriteOn 0 ks [(12, bol (stk.all fun m => inR m 0 (r.stack - 1))), (4, RwF r), (3, str w), (2, lst 1 stk), (1, i64 q)] [] := by
  simp only [inR, Bool.and_eq_true, decide_eq_true_eq] at hS
  have w2 := wrap_i64 (n := r.stack - 1) (by omega)
  have step : ∀ (k : Nat), k ≤ stk.length → 
      rE fns fa_spec_RewriteOn 0 (.code lo_spec_RewriteOn_0 :: .inBlock 0 :: ks) [(13, i64 (k : Nat)), (12, bol true), (4, RwF r), (3, str w), (2, lst 1 stk), (1, i64 q)] [] =
        rE fns fa_spec_RewriteOn 0 ks [(12, bol ((stk.drop k).all fun m => inR m 0 (r.stack - 1))), (4, RwF r), (3, str w), (2, lst 1 stk), (1, i64 q)] [] := by
    intro k hk2
    obtain ⟨d, hd⟩ : ∃ d, d = stk.length - k := ⟨_, rfl⟩
    induction d generalizing k with
    | zero =>
      have hke : k = stk.length := by omega
      subst hke
      rw [l_spec_RewriteOn_0]
      simp [lb_spec_RewriteOn_0]
      done
    | succ d ih =>
      have hlt : k < stk.length := by omega
      have hw := wrap_i64 (n := k + 1) (by omega)
      have e := ih (k + 1) (by omega) (by omega)
      rw [List.drop_eq_getElem_cons hlt, List.all_cons]
      rw [l_spec_RewriteOn_0]
      cases c : inR stk[k] 0 (r.stack - 1)
      · simp only [Bool.false_and]
        simp [lb_spec_RewriteOn_0, hlt, w2, c, hw]
        rw [l_spec_RewriteOn_0]
        by_cases hl2 : (k : Int) + 1 < stk.length
        · simp [lb_spec_RewriteOn_0, hlt, w2, c, hw, hl2]
          done
        · simp [lb_spec_RewriteOn_0, hlt, w2, c, hw, hl2]
          done
      · simp only [Bool.true_and]
        simp at e
        simp [lb_spec_RewriteOn_0, hlt, w2, c, hw, e]
        done
  have := step 0 (by omega)
  simpa using this
theorem spC_RewriteOn (r : GRewriter) (hr : Siz.size r ≤ 1048576) (q : Int) (stk : List Int) (hk : Siz.size stk ≤ 1048576) (w : ByteArray) (hw : w.size ≤ 1048576) :
    ∃ p, ev fns i_spec_RewriteOn [r.v, i64 q, lst 1 stk, str w] [] = some (.tup [i64 (onR r q stk w).1.1, p, str (onR r q stk w).1.2.2, i64 (onR r q stk w).2], []) ∧ p.bel 0 = true ∧ PV.ty (Own.sh (List Int)) p = Enc.pv (onR r q stk w).1.2.1 := by
  rw [Siz.size_flat_int] at hk
  have h1 := ev_spec_l06Ok r hr
  have h2 := ev_spec_l01Ok w (by omega)
  simp at h1 h2
  unfold onR
  cases c1 : okRw r
  · rw [c1] at h1
    refine ⟨.list 1 [] true, go_spec_RewriteOn (by simp) ?_, by simp [PV.bel], tyI0⟩
    simp [ac_spec_RewriteOn, h1]
    done
  rw [c1] at h1
  cases c2 : okWord w
  · rw [c2] at h2
    refine ⟨.list 1 [] true, go_spec_RewriteOn (by simp) ?_, by simp [PV.bel], tyI0⟩
    simp [ac_spec_RewriteOn, h1, h2]
    done
  rw [c2] at h2
  obtain ⟨g1, g2, _⟩ := okRw_len c1
  have g1' := g1
  simp only [inR, Bool.and_eq_true, decide_eq_true_eq] at g1'
  have w1 := wrap_i64 (n := (r.call.length : Int) - 1) (by omega)
  cases f1 : inR q 0 ((r.call.length : Int) - 1)
  · have f0 : okFromR r q stk = false := by simp [okFromR, f1]
    refine ⟨.list 1 [] true, go_spec_RewriteOn (by simp) ?_, by simp [PV.bel], by simpa [f0] using tyI0⟩
    have lo : ∀ ks, rE fns fa_spec_RewriteOn 0 (.code lo_spec_RewriteOn_0 :: .inBlock 0 :: ks) [(13, i64 0), (12, bol false), (4, RwF r), (3, str w), (2, lst 1 stk), (1, i64 q)] [] = rE fns fa_spec_RewriteOn 0 ks [(12, bol false), (4, RwF r), (3, str w), (2, lst 1 stk), (1, i64 q)] [] := by
      intro ks
      rw [l_spec_RewriteOn_0]
      by_cases hl : 0 < stk.length <;> simp [lb_spec_RewriteOn_0, hl]
    simp at lo
    simp [ac_spec_RewriteOn, h1, h2, w1, f1, f0, lo]
    done
  by_cases f2 : stk.length ≤ 60
  · have lo := lo_on r q w g2 stk (by omega)
    cases f3 : stk.all (fun m => inR m 0 (r.stack - 1))
    · rw [f3] at lo
      have f0 : okFromR r q stk = false := by simp only [okFromR, f3, Bool.and_false]
      refine ⟨.list 1 [] true, go_spec_RewriteOn (by simp) ?_, by simp [PV.bel], by simpa [f0] using tyI0⟩
      simp at lo
      simp [ac_spec_RewriteOn, h1, h2, w1, f1, f2, f0, lo, show (stk.length : Int) ≤ 60 by omega]
      done
    · rw [f3] at lo
      have f0 : okFromR r q stk = true := by simp only [okFromR, f1, f3, f2, decide_true, Bool.and_true]
      have hI := okFromR_I f0
      have ok := goF_all c1 (okWord_symR c2) hI emp_sym
      have hw6 := okWord_leR c2
      have hln := ok.2.ln
      have hsz := ok.2.sz
      have h5 := ev_reads r c1 w (okWord_symR c2) (by omega) q stk 60 (by omega) hI
      obtain ⟨G, hG⟩ : ∃ G, G = gR r q stk w := ⟨_, rfl⟩
      unfold gR at hG
      unfold gR
      rw [← hG] at hln hsz h5 ⊢
      obtain ⟨q2, st, out⟩ := G
      simp only at hln hsz
      simp only [f0, if_true]
      by_cases L1 : st.length ≤ 60
      · by_cases L2 : out.size ≤ 60
        · rw [if_pos ⟨L1, L2⟩]
          have hq := ev_ownL st (by omega)
          have h7 := numsOf_bytes out
          have h8 := strOf_bytes out
          refine ⟨.list 1 (st.map Enc.pv) false, go_spec_RewriteOn (by simp) ?_, by simp [PV.bel], tyIL st⟩
          simp at lo h5 hq
          simp [ac_spec_RewriteOn, h1, h2, h5, h7, h8, hq, nls_ints st, lo, show st.length ≤ 140737488355328 by omega, w1, f1, f2, L1, L2, show (stk.length : Int) ≤ 60 by omega, show ¬ (60 : Int) < st.length by omega, show ¬ (60 : Int) < out.size by omega]
          done
        · rw [if_neg (fun h => L2 h.2)]
          refine ⟨.list 1 [] true, go_spec_RewriteOn (by simp) ?_, by simp [PV.bel], tyI0⟩
          simp at lo h5
          simp [ac_spec_RewriteOn, h1, h2, h5, lo, w1, f1, f2, L1, L2, show (stk.length : Int) ≤ 60 by omega, show ¬ (60 : Int) < st.length by omega, show (60 : Int) < out.size by omega]
          done
      · rw [if_neg (fun h => L1 h.1)]
        refine ⟨.list 1 [] true, go_spec_RewriteOn (by simp) ?_, by simp [PV.bel], tyI0⟩
        simp at lo h5
        simp [ac_spec_RewriteOn, h1, h2, h5, lo, w1, f1, f2, L1, show (stk.length : Int) ≤ 60 by omega, show (60 : Int) < st.length by omega]
        done
  · have f0 : okFromR r q stk = false := by simp [okFromR, f2]
    have lo : ∀ ks, rE fns fa_spec_RewriteOn 0 (.code lo_spec_RewriteOn_0 :: .inBlock 0 :: ks) [(13, i64 0), (12, bol false), (4, RwF r), (3, str w), (2, lst 1 stk), (1, i64 q)] [] = rE fns fa_spec_RewriteOn 0 ks [(12, bol false), (4, RwF r), (3, str w), (2, lst 1 stk), (1, i64 q)] [] := by
      intro ks
      rw [l_spec_RewriteOn_0]
      simp [lb_spec_RewriteOn_0, show 0 < stk.length by omega]
    refine ⟨.list 1 [] true, go_spec_RewriteOn (by simp) ?_, by simp [PV.bel], by simpa [f0] using tyI0⟩
    simp at lo
    simp [ac_spec_RewriteOn, h1, h2, w1, f1, f2, f0, lo, show ¬ (stk.length : Int) ≤ 60 by omega]
    done
end Go.Proofs.Ytjfpmpbdbpgofaa
