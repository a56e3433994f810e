/- Runs: the program's and the reference's. -/
import Derived.Test.YtegjfjckijmgcaaGoOnA
set_option linter.unusedVariables false
set_option linter.unusedSimpArgs false
set_option maxRecDepth 100000
namespace Go.Proofs.Ytegjfjckijmgcaa
open Aw

/-- One more symbol: where it leads, and the states so far. -/
def stL (c : GChecker) (p : CSt × List Int) (ch : Int) : CSt × List Int := (stepC c p.1 ch, p.2 ++ [(stepC c p.1 ch).1])
theorem stL_fst (c : GChecker) : ∀ (cs : List Int) (p : CSt × List Int), (cs.foldl (stL c) p).1 = goC c p.1 cs
  | [], p => rfl
  | x :: cs, p => stL_fst c cs (stL c p x)
theorem stL_len (c : GChecker) : ∀ (cs : List Int) (p : CSt × List Int), (cs.foldl (stL c) p).2.length = p.2.length + cs.length
  | [], p => rfl
  | x :: cs, p => by
    rw [List.foldl_cons, stL_len c cs (stL c p x)]
    simp [stL]; omega
@[simp] abbrev st0 (c : GChecker) : CSt × List Int := ((c.start, []), [c.start])
def runA (c : GChecker) (w : ByteArray) : List Int × List Int × Int :=
  if (okCk c && okWord w) = true then (((wl w).foldl (stL c) (st0 c)).2, (goC c (c.start, []) (wl w)).2, 0) else ([], [], 1)
/-- The stack at first: nil. -/
def V0 (z : PV) (k : Nat) (s : CSt) : PV := match k with | 0 => z | _ + 1 => lst 1 s.2
structure RnI (c : GChecker) (k : Nat) (p : CSt × List Int) : Prop where
  ck : CkI c k p.1
  ln : p.2.length = k + 1
  z : k = 0 → p.1.2 = []
theorem RnI.step {c : GChecker} (hok : okCk c = true) {k : Nat} {p : CSt × List Int} (h : RnI c k p) {ch : Int} (hc : 0 ≤ symIx ch) : RnI c (k + 1) (stL c p ch) :=
  ⟨stepC_ok hok h.ck hc, by simp [stL, h.ln], fun h => by omega⟩
theorem RnI.start {c : GChecker} (hok : okCk c = true) : RnI c 0 (st0 c) := ⟨CkI.start hok, rfl, fun _ => rfl⟩
@[simp] abbrev runS (c : GChecker) (k : Nat) (p : CSt × List Int) : List AObj := [.row 6 [c.v] 0, .row 1 [.own 4 0 0 p.2.length] 0, .row 1 [V0 (.val (.slice none 0 0)) k p.1] 0, .row 6 [c.v] 0, .row 1 (p.2.map Enc.pv) 0]
set_option maxHeartbeats 2000000 in
theorem lo_run_RunOf (c : GChecker) (hok : okCk c = true) (w : ByteArray) (hw : symW w) (hL : w.size ≤ 100000) (ks : List KI) :
    rE fns fa_impl_Checker_run 3 (.code lo_impl_Checker_run_0 :: .inBlock 0 :: ks) [(17, i64 0), (16, i64 w.size), (5, .ptr 3 0 0 0), (4, .fn i_impl_RunOf_1 [.ptr 1 0 0 0, .ptr 2 0 0 0]), (3, str w), (2, .val (.slice none 0 0)), (1, i64 c.start)] (runS c 0 (st0 c)) =
      rE fns fa_impl_Checker_run 3 ks [] (runS c w.size ((wl w).foldl (stL c) (st0 c))) := by
  have lo := loop_fold (F := fun k p => rE fns fa_impl_Checker_run 3 (.code lo_impl_Checker_run_0 :: .inBlock 0 :: ks) [(17, i64 (k : Nat)), (16, i64 w.size), (5, .ptr 3 0 0 0), (4, .fn i_impl_RunOf_1 [.ptr 1 0 0 0, .ptr 2 0 0 0]), (3, str w), (2, V0 (.val (.slice none 0 0)) k p.1), (1, i64 p.1.1)] (runS c k p)) (ls := wl w) (f := stL c) (fun k p => RnI c k p)
    (fun k p hk hI => by
      have hc := hw _ (List.getElem_mem hk)
      refine ⟨?_, hI.step hok hc⟩
      have hk' : k < w.size := by simpa using hk
      have hwr := wrap_i64 (n := k + 1) (by omega)
      have hb := bt_wl hk'
      have hst := ev_impl_step c hok k (by omega) p.1 hI.ck _ hc
      have hln := hI.ln
      have b1 : (p.2.length + 1) * 8 ≤ 140737488355328 := by omega
      obtain ⟨⟨s1, s2⟩, h⟩ := p
      simp only at hst hln b1
      rw [l_impl_Checker_run_0]
      cases k with
      | zero =>
        have hz := hI.z rfl
        simp only at hz
        subst hz
        have hcl : ev fns i_impl_RunOf_1 [i64 (stepC c (s1, []) (wl w)[0]).1, lst 1 (stepC c (s1, []) (wl w)[0]).2, .ptr 1 0 0 0, .ptr 2 0 0 0] [.row 6 [c.v] 0, .row 1 [.own 4 0 0 h.length] 0, .row 1 [.val (.slice none 0 0)] 0, .row 6 [c.v] 0, .row 1 (h.map Enc.pv) 0] = some (.tup [], [.row 6 [c.v] 0, .row 1 [.own 4 1 0 (h.length + 1)] 0, .row 1 [lst 1 (stepC c (s1, []) (wl w)[0]).2] 0, .row 6 [c.v] 0, .row 1 ((h ++ [(stepC c (s1, []) (wl w)[0]).1]).map Enc.pv) 1]) := by
          refine go_impl_RunOf_1 (by simp) ?_
          simp [ac_impl_RunOf_1, b1]
        simp at hst hcl hwr hb
        simp [lb_impl_Checker_run_0, hk', hwr, hb, hst, hcl, V0, stL]
      | succ k =>
        have hcl : ev fns i_impl_RunOf_1 [i64 (stepC c (s1, s2) (wl w)[k + 1]).1, lst 1 (stepC c (s1, s2) (wl w)[k + 1]).2, .ptr 1 0 0 0, .ptr 2 0 0 0] [.row 6 [c.v] 0, .row 1 [.own 4 0 0 h.length] 0, .row 1 [lst 1 s2] 0, .row 6 [c.v] 0, .row 1 (h.map Enc.pv) 0] = some (.tup [], [.row 6 [c.v] 0, .row 1 [.own 4 1 0 (h.length + 1)] 0, .row 1 [lst 1 (stepC c (s1, s2) (wl w)[k + 1]).2] 0, .row 6 [c.v] 0, .row 1 ((h ++ [(stepC c (s1, s2) (wl w)[k + 1]).1]).map Enc.pv) 1]) := by
          refine go_impl_RunOf_1 (by simp) ?_
          simp [ac_impl_RunOf_1, b1]
        simp at hst hcl hwr hb
        simp [lb_impl_Checker_run_0, hk', show (k : Int) + 1 < w.size by omega, show (0 : Int) ≤ (k : Int) + 1 by omega, hwr, hb, hst, hcl, V0, stL])
    (s := st0 c) (RnI.start hok)
  simp only [wl_length] at lo
  have h0 := lo.1
  simp only [V0] at h0
  refine Eq.trans ?_ (h0.trans ?_)
  · rfl
  · rw [l_impl_Checker_run_0]
    simp [lb_impl_Checker_run_0]
    done

theorem ev_run_RunOf (c : GChecker) (hok : okCk c = true) (w : ByteArray) (hw : symW w) (hL : w.size ≤ 100000) :
    ev fns i_impl_Checker_run [c.v, i64 c.start, .val (.slice none 0 0), str w, .fn i_impl_RunOf_1 [.ptr 1 0 0 0, .ptr 2 0 0 0]] [.row 6 [c.v] 0, .row 1 [.list 1 [] true] 0, .row 1 [.list 1 [] true] 0] =
      some (.tup [], [.row 6 [c.v] 0, .row 1 [.own 4 0 0 ((wl w).foldl (stL c) (st0 c)).2.length] 0, .row 1 [V0 (.val (.slice none 0 0)) w.size ((wl w).foldl (stL c) (st0 c)).1] 0, .row 6 [] 0, .row 1 (((wl w).foldl (stL c) (st0 c)).2.map Enc.pv) 0]) := by
  refine go_impl_Checker_run (by simp) ?_
  have hcl : ev fns i_impl_RunOf_1 [i64 c.start, .val (.slice none 0 0), .ptr 1 0 0 0, .ptr 2 0 0 0] [.row 6 [c.v] 0, .row 1 [.list 1 [] true] 0, .row 1 [.list 1 [] true] 0, .row 6 [c.v] 0] = some (.tup [], [.row 6 [c.v] 0, .row 1 [.own 4 0 0 1] 0, .row 1 [.val (.slice none 0 0)] 0, .row 6 [c.v] 0, .row 1 [i64 c.start] 0]) := by
    refine go_impl_RunOf_1 (by simp) ?_
    simp [ac_impl_RunOf_1]
  have lo := lo_run_RunOf c hok w hw hL
  simp [V0] at lo hcl
  cases hs : w.size with
  | zero =>
    simp [hs, V0] at lo
    simp [ac_impl_Checker_run, hcl, lo, hs, V0]
  | succ n =>
    simp [hs, V0] at lo
    simp [ac_impl_Checker_run, hcl, lo, hs, V0]
theorem own_at {σ : List AObj} {id : Nat} (l : List Int) (h : σ[id]? = some (.row 1 (l.map Enc.pv) 0)) (hl : l.length ≤ 140737488355328) : OwnIn σ [id] (.own id 0 0 l.length) l :=
  ⟨own_flat l h hl, by simp, fun i hi => by simp at hi; subst hi; exact (List.getElem?_eq_some_iff.1 h).1⟩
theorem nls_ints (l : List Int) : PV.nls (l.map Enc.pv) = true := by
  rw [PV.nls_iff]; intro p hp; obtain ⟨y, _, rfl⟩ := List.mem_map.1 hp; simp [PV.nl]
theorem ev_impl_RunOf (c : GChecker) (hz : Siz.size c ≤ 1048576) (w : ByteArray) (hw : w.size ≤ 1048576) :
    ∃ p1 p2 τ ids1 ids2, ev fns i_impl_RunOf [c.v, str w] [] = some (.tup [p1, p2, i64 (runA c w).2.2], τ) ∧ OwnIn τ ids1 p1 (runA c w).1 ∧ OwnIn τ ids2 p2 (runA c w).2.1 ∧ GoodN τ ∧ ∀ i ∈ ids1, i ∉ ids2 := by
  have h1 := ev_impl_ValidChecker c hz
  have h2 := ev_impl_ValidWord w (by omega)
  simp at h1 h2
  unfold runA
  cases c1 : okCk c
  · rw [c1] at h1
    refine ⟨.val (.slice none 0 0), .val (.slice none 0 0), [], [], [], go_impl_RunOf (by simp) ?_, own_nil, own_nil, GoodN.nil, by simp⟩
    simp [ac_impl_RunOf, h1]
  rw [c1] at h1
  cases c2 : okWord w
  · rw [c2] at h2
    refine ⟨.val (.slice none 0 0), .val (.slice none 0 0), [], [], [], go_impl_RunOf (by simp) ?_, own_nil, own_nil, GoodN.nil, by simp⟩
    simp [ac_impl_RunOf, h1, h2]
  rw [c2] at h2
  have hw6 := okWord_le c2
  have hr := ev_run_RunOf c c1 w (okWord_symW c2) (by omega)
  have hf := stL_fst c (wl w) (st0 c)
  have hln := stL_len c (wl w) (st0 c)
  have ok := (goC_ok c1 (wl w) 0 _ (CkI.start c1) (okWord_symW c2)).ln
  simp only [wl_length, List.length_singleton] at hln ok
  have n1 : ((wl w).foldl (stL c) (st0 c)).2.length ≤ 140737488355328 := by omega
  have n2 : (goC c (c.start, []) (wl w)).2.length ≤ 140737488355328 := by omega
  have hcl := ev_Clone (goC c (c.start, []) (wl w)).2 (by omega)
  have hcn : ev fns i_slices_Clone_L_int64 [.val (.slice none 0 0)] [] = some (.own 0 0 0 0, [.row 1 [] 0]) := by
    rw [sp_slices_Clone_L_int64]; simp [spClone]
  rw [hf] at hr
  refine ⟨.own 4 0 0 ((wl w).foldl (stL c) (st0 c)).2.length, .own 5 0 0 (goC c (c.start, []) (wl w)).2.length, [.row 6 [] 0, .row 1 [] 0, .row 1 [] 0, .row 6 [] 0, .row 1 (((wl w).foldl (stL c) (st0 c)).2.map Enc.pv) 0, .row 1 ((goC c (c.start, []) (wl w)).2.map Enc.pv) 0], [4], [5], go_impl_RunOf (by simp) ?_, by simpa using own_at _ rfl n1, by simpa using own_at _ rfl n2, ?_, by simp⟩
  · cases hs : w.size with
    | zero =>
      have he : wl w = [] := List.eq_nil_of_length_eq_zero (by rw [wl_length]; exact hs)
      simp [he, hs, V0, goC] at hr hcl
      simp [ac_impl_RunOf, h1, h2, hr, hcn, he, goC]
    | succ n =>
      simp [hs, V0] at hr hcl
      simp [ac_impl_RunOf, h1, h2, hr, hcl]
  · refine ⟨?_, ?_⟩
    · simp [Good, objsBel, PV.bels]
    · simp [AObj.nl, PV.nls, nls_ints]
/-! ### The reference's -/
theorem lo_spec_RunOf (c : GChecker) (hok : okCk c = true) (w : ByteArray) (hw : symW w) (hL : w.size ≤ 100000) (ks : List KI) :
    rE fns fa_spec_RunOf 0 (.code lo_spec_RunOf_0 :: .inBlock 0 :: ks) [(11, i64 0), (10, .list 1 [] true), (9, i64 c.start), (8, .own 0 0 0 1), (2, CkP c), (1, str w)] [.row 1 [i64 c.start] 0] =
      rE fns fa_spec_RunOf 0 ks [(10, V0 (.list 1 [] true) w.size ((wl w).foldl (stL c) (st0 c)).1), (8, .own 0 0 0 ((wl w).foldl (stL c) (st0 c)).2.length)] [.row 1 (((wl w).foldl (stL c) (st0 c)).2.map Enc.pv) 0] := by
  have lo := loop_fold (F := fun k p => rE fns fa_spec_RunOf 0 (.code lo_spec_RunOf_0 :: .inBlock 0 :: ks) [(11, i64 (k : Nat)), (10, V0 (.list 1 [] true) k p.1), (9, i64 p.1.1), (8, .own 0 0 0 p.2.length), (2, CkP c), (1, str w)] [.row 1 (p.2.map Enc.pv) 0]) (ls := wl w) (f := stL c) (fun k p => RnI c k p)
    (fun k p hk hI => by
      have hc := hw _ (List.getElem_mem hk)
      refine ⟨?_, hI.step hok hc⟩
      have hk' : k < w.size := by simpa using hk
      have hwr := wrap_i64 (n := k + 1) (by omega)
      have hb := bt_wl hk'
      have hst := ev_spec_l02Step c hok k (by omega) p.1 hI.ck _ hc
      have hln := hI.ln
      have b1 : (p.2.length + 1) * 8 ≤ 140737488355328 := by omega
      obtain ⟨⟨s1, s2⟩, h⟩ := p
      simp only at hst hln b1
      rw [l_spec_RunOf_0]
      cases k with
      | zero =>
        have hz := hI.z rfl
        simp only at hz
        subst hz
        simp at hst hwr hb
        simp [lb_spec_RunOf_0, hk', hwr, hb, hst, V0, stL, b1]
      | succ k =>
        simp at hst hwr hb
        simp [lb_spec_RunOf_0, hk', show (k : Int) + 1 < w.size by omega, show (0 : Int) ≤ (k : Int) + 1 by omega, hwr, hb, hst, V0, stL, b1])
    (s := st0 c) (RnI.start hok)
  simp only [wl_length] at lo
  have h0 := lo.1
  simp only [V0] at h0
  refine Eq.trans ?_ (h0.trans ?_)
  · rfl
  · rw [l_spec_RunOf_0]
    simp [lb_spec_RunOf_0, V0]
    done
/-- Ints that can be read: owned, or a list. -/
def RdI (σ : List AObj) (ids : List Nat) (p : PV) (l : List Int) : Prop := OwnIn σ ids p l ∨ (ids = [] ∧ ∃ b, p = .list 1 (l.map Enc.pv) b)
theorem ev_spec_RunOf (c : GChecker) (hz : Siz.size c ≤ 1048576) (w : ByteArray) (hw : w.size ≤ 1048576) :
    ∃ p τ ids b, ev fns i_spec_RunOf [c.v, str w] [] = some (.tup [p, .list 1 ((runA c w).2.1.map Enc.pv) b, i64 (runA c w).2.2], τ) ∧ RdI τ ids p (runA c w).1 ∧ Good τ := by
  have h1 := ev_spec_l02Given c hz w hw
  unfold runA
  by_cases c1 : (okCk c && okWord w) = true
  · have c1' := c1
    simp only [Bool.and_eq_true] at c1
    rw [if_pos c1] at h1
    rw [if_pos c1']
    have lo := lo_spec_RunOf c c1.1 w (okWord_symW c1.2) (by have := okWord_le c1.2; omega)
    have hf := stL_fst c (wl w) (st0 c)
    have hln := stL_len c (wl w) (st0 c)
    have hw6 := okWord_le c1.2
    simp only [wl_length, List.length_singleton] at hln
    rw [hf] at lo
    have hg : Good [.row 1 (((wl w).foldl (stL c) (st0 c)).2.map Enc.pv) 0] := by simp [Good, objsBel]
    refine ⟨.own 0 0 0 ((wl w).foldl (stL c) (st0 c)).2.length, [.row 1 (((wl w).foldl (stL c) (st0 c)).2.map Enc.pv) 0], [0], decide (w.size = 0), go_spec_RunOf (by simp) ?_, .inl (own_at _ rfl (by omega)), hg⟩
    simp at h1
    cases hs : w.size with
    | zero =>
      have he : wl w = [] := List.eq_nil_of_length_eq_zero (by rw [wl_length]; exact hs)
      simp [he, hs, V0, goC] at lo
      simp [ac_spec_RunOf, h1, lo, he, goC, hs]
    | succ n =>
      simp [hs, V0] at lo
      simp [ac_spec_RunOf, h1, lo, hs]
  · have c1' := c1
    simp only [Bool.and_eq_true] at c1
    rw [if_neg c1] at h1
    rw [if_neg c1']
    simp at h1
    refine ⟨.list 1 [] true, [], [], true, go_spec_RunOf (by simp) ?_, .inr ⟨rfl, true, rfl⟩, GoodN.nil.1⟩
    simp [ac_spec_RunOf, h1]
/-! ### What the law's calls come to -/
theorem RdI.grow {σ : List AObj} (τ : List AObj) {ids : List Nat} {p : PV} {l : List Int} (h : RdI σ ids p l) : RdI (σ ++ τ) ids p l := by
  rcases h with h | h
  · exact .inl (h.grow τ)
  · exact .inr h
theorem RdI.keep {σ σ' : List AObj} {ids : List Nat} {p : PV} {l : List Int} (h : RdI σ ids p l) (hl : σ'.length = σ.length) (hk : ∀ i ∈ ids, σ'[i]? = σ[i]?) : RdI σ' ids p l := by
  rcases h with h | h
  · exact .inl (h.keep hl hk)
  · exact .inr h
theorem RdI.lt {σ : List AObj} {ids : List Nat} {p : PV} {l : List Int} (h : RdI σ ids p l) : ∀ i ∈ ids, i < σ.length := by
  rcases h with h | ⟨rfl, _⟩
  · exact h.lt
  · simp
theorem eqI_callR {σ : List AObj} {p p' : PV} {ids ids' : List Nat} {l : List Int} (o : OwnIn σ ids p l) (o' : RdI σ ids' p' l) (hl : l.length ≤ 1048576) : callT fns [shI, shI] i_laws_eqInt64S [p, p'] σ = some (bol true, σ) := by
  rcases o' with o' | ⟨_, b, rfl⟩
  · exact eqI_call2 o o' hl
  · exact eqI_call o hl b
theorem heldI_callk {σ : List AObj} {p : PV} {ids : List Nat} {l : List Int} {k : Int} (o : OwnIn σ ids p (mkF 1 (fun k => k) l k)) (hl : l.length ≤ 1048576) (hk : 0 < k) (hk2 : k ≤ 4611686018426339328) : callT fns [shI, .any] i_laws_heldInt64S [p, i64 k] σ = some (i64 (k + l.length), σ) := by
  obtain ⟨q, d, y⟩ := readI o
  have h := heldC_Int64S σ ids p l k o.own hk (by dsimp only; omega)
  exact callT_readL (qs := [q, i64 k]) (by simp only [mapO, d]; simp [dfr]) (by simp only [PV.tys, y]; simpa using h) (by simp) (by simp [PV.nl])
theorem runOf_spec_call (c : GChecker) (hz : Siz.size c ≤ 1048576) (w : ByteArray) (hw : w.size ≤ 1048576) {q : PV} (hq : q.bel 0 = true) (hy : PV.ty shC q = c.v) :
    ∃ p m ids b, callT fns [shC, .any] i_spec_RunOf [q, str w] [] = some (.tup [p, .list 1 ((runA c w).2.1.map Enc.pv) b, i64 (runA c w).2.2], m) ∧ RdI m ids p (runA c w).1 ∧ Good m := by
  obtain ⟨p, τ, ids, b, e, o, g⟩ := ev_spec_RunOf c hz w hw
  have h : callT fns [shC, .any] i_spec_RunOf [q, str w] [] = some (behind [] (.tup [p, .list 1 ((runA c w).2.1.map Enc.pv) b, i64 (runA c w).2.2], τ)) := by
    unfold callT
    rw [if_pos (by simp [PV.bels, hq])]
    have ht : PV.tys [shC, .any] [q, str w] = [c.v, str w] := by simp only [PV.tys, hy]; rfl
    rw [ht, e]; rfl
  refine ⟨p.sh 0, τ.map (AObj.sh 0), ids.map (· + 0), b, ?_, ?_, ?_⟩
  · rw [h]; simp [behind, PV.sh, PV.shs]
  · rcases o with o | ⟨rfl, b', rfl⟩
    · have := o.shift []
      exact .inl (by simpa using this)
    · exact .inr ⟨rfl, b', by simp [PV.sh]⟩
  · have := Good.app (σ := []) GoodN.nil.1 g
    simpa using this
theorem runOf_call (c : GChecker) (hz : Siz.size c ≤ 1048576) (w : ByteArray) (hw : w.size ≤ 1048576) (σ : List AObj) (hg : Good σ) {P : PV} {ids : List Nat} (oP : OwnIn σ ids P c) :
    ∃ p1 p2 m j1 j2, callT fns [shC, .any] i_impl_RunOf [P, str w] σ = some (.tup [p1, p2, i64 (runA c w).2.2], σ ++ m) ∧ OwnIn (σ ++ m) j1 p1 (runA c w).1 ∧ OwnIn (σ ++ m) j2 p2 (runA c w).2.1 ∧ Good (σ ++ m) ∧ (∀ i ∈ j1, σ.length ≤ i) ∧ (∀ i ∈ j2, σ.length ≤ i) ∧ ∀ i ∈ j1, i ∉ j2 := by
  obtain ⟨p1, p2, τ, j1, j2, e, o1, o2, g, hd⟩ := ev_impl_RunOf c hz w hw
  obtain ⟨qP, dP, yP⟩ := readC oP
  refine ⟨p1.sh σ.length, p2.sh σ.length, τ.map (AObj.sh σ.length), j1.map (· + σ.length), j2.map (· + σ.length), ?_, o1.shift σ, o2.shift σ, hg.app g.1, fun i hi => ?_, fun i hi => ?_, fun i hi hj => ?_⟩
  · have := callT_read (fns := fns) (ss := [shC, .any]) (f := i_impl_RunOf) (args := [P, str w]) (qs := [qP, str w]) (σ := σ) (by simp only [mapO, dP]; simp [dfr]) (by simp only [PV.tys, yP]; exact e) ⟨by simp [PV.nl, PV.nls, Own.nl o1.own, Own.nl o2.own], g.2⟩
    rw [this]
    simp [behind, PV.sh, PV.shs]
  · obtain ⟨j, _, rfl⟩ := List.mem_map.1 hi; omega
  · obtain ⟨j, _, rfl⟩ := List.mem_map.1 hi; omega
  · obtain ⟨j, h1, rfl⟩ := List.mem_map.1 hi
    obtain ⟨j', h2, e⟩ := List.mem_map.1 hj
    have : j' = j := by omega
    subst this
    exact hd _ h1 h2
theorem runA_len (c : GChecker) (w : ByteArray) : (runA c w).1.length ≤ 1048576 ∧ (runA c w).2.1.length ≤ 1048576 := by
  unfold runA
  split
  · rename_i c1
    simp only [Bool.and_eq_true] at c1
    have h1 := (goC_ok c1.1 (wl w) 0 _ (CkI.start c1.1) (okWord_symW c1.2)).ln
    have h2 := stL_len c (wl w) (st0 c)
    have h3 := okWord_le c1.2
    simp at h1 h2 ⊢
    omega
  · simp
set_option maxHeartbeats 8000000 in
theorem ev_FnExactRunOf (a : GChecker) (w : ByteArray) (fa : Siz.fits a) (fw : Siz.fits w) : ev fns i_laws_FnExactRunOf [a.v, str w] [] = some (bol true, []) := by
  refine go_laws_FnExactRunOf (by simp) ?_
  by_cases cw : (w.size : Int) ≤ 1048576
  · have e1 := ev_laws_szChecker a 1048576 (by omega) (by omega) fa
    by_cases c1 : (Siz.size a : Int) ≤ 1048576
    · rw [szR_ok c1] at e1
      have s1 := fun σ => callN_lone (σ := σ) (by simp [PV.bels]) e1 (by simp)
      have hsa : Siz.size a ≤ 1048576 := by omega
      obtain ⟨hl1, hl2⟩ := runA_len a w
      have hW := wChecker_le a
      obtain ⟨q1, b1, y1, z1⟩ := cz_own toC_Checker a hsa dep_Checker (fun r h => by simp [-callN, -callT] at h ⊢; exact h)
      replace y1 : PV.ty shC q1 = a.v := y1
      obtain ⟨p0, ms, id0, b, e3, rd0, g0⟩ := runOf_spec_call a hsa w (by omega) b1 y1
      obtain ⟨p1, m1, ids1, a1, o1, d1, g1⟩ := callG toC_Checker a hsa ms g0
      obtain ⟨i0, r0, i1, r1, i2, r2, i3, r3, i4, r4, i5, r5, rfl, rfl, ⟨rfl, rfl⟩, ⟨rfl, rfl⟩, h2, h3, h4, h5⟩ := o1.own
      have kn2 := (own_one h2).2.2.2
      have kn3 := (own_one h3).2.2.2
      have kn4 := (own_one h4).2.2.2
      have kn5 := (own_one h5).2.2.2
      have rd1 := rd0.grow m1
      have hlb : ms.length ≤ (ms ++ m1).length := by simp
      generalize hb : ms ++ m1 = σb at *
      generalize hP : PV.agg [Enc.pv a.stack, Enc.pv a.start, r2, r3, r4, r5] = P at *
      have g2 : Good (σb ++ [AObj.row 6 [P] 0]) := by
        unfold Good
        rw [List.length_append]
        refine objsBel_app (objsBel_mono (by omega) g1) ?_
        simp only [objsBel, PV.bels, Bool.and_true]
        exact PV.bel_le (by omega) o1.bel
      have o2 := o1.grow [AObj.row 6 [P] 0]
      have rd2 := rd1.grow [AObj.row 6 [P] 0]
      obtain ⟨x1, x2, m3, j1, j2, a3, ox1, ox2, g3, e1', e2', hd⟩ := runOf_call a hsa w (by omega) _ g2 o2
      have o3 := o2.grow m3
      have rd3 := rd2.grow m3
      have y3 : ((σb ++ [AObj.row 6 [P] 0]) ++ m3)[σb.length]? = some (.row 6 [P] 0) := by rw [List.getElem?_append_left (by simp)]; simp
      have hl3 : σb.length < ((σb ++ [AObj.row 6 [P] 0]) ++ m3).length := by simp <;> omega
      simp only [List.length_append, List.length_singleton] at e1' e2'
      generalize h3e : (σb ++ [AObj.row 6 [P] 0]) ++ m3 = σ3 at *
      have s3 := eqI_callR ox1 rd3 hl1
      have s3' := eqI_call ox2 hl2 b
      obtain ⟨p4, m4, ids4, a4, o4, _, g4⟩ := callG toC_Checker a hsa σ3 g3
      have oP4 := o3.grow m4
      have rd4 := rd3.grow m4
      have ox14 := ox1.grow m4
      have ox24 := ox2.grow m4
      have y4 : (σ3 ++ m4)[σb.length]? = some (.row 6 [P] 0) := by rw [List.getElem?_append_left (by omega)]; exact y3
      have s4 := eqC_call2 oP4 o4 hsa
      generalize h4e : σ3 ++ m4 = σ4 at *
      have iP : ∀ i ∈ ([] ++ [] ++ i2 ++ i3 ++ i4 ++ i5), i < σb.length := o1.lt
      have i0' : ∀ i ∈ id0, i < ms.length := rd0.lt
      obtain ⟨σ5, a5, oP5, l5, k5, g5, _⟩ := markC_Checker σ4 _ P a 1 oP4 g4 (by omega) (by omega)
      have rd5 := rd4.keep l5 fun i hi => k5 i fun hj => by have := d1 i hj; have := i0' i hi; omega
      have ox15 := ox14.keep l5 fun i hi => k5 i fun hj => by have := iP i hj; have := e1' i hi; omega
      have ox25 := ox24.keep l5 fun i hi => k5 i fun hj => by have := iP i hj; have := e2' i hi; omega
      have s5 := eqI_callR ox15 rd5 hl1
      have s5' := eqI_call ox25 hl2 b
      obtain ⟨σ6, a6, ox16, l6, k6, g6, _⟩ := markC_Int64S σ5 j1 x1 _ 1 ox15 g5 (by omega) (by (try dsimp only); omega)
      have rd6 := rd5.keep l6 fun i hi => k6 i fun hj => by have := e1' i hj; have := i0' i hi; omega
      have ox26 := ox25.keep l6 fun i hi => k6 i fun hj => hd i hj hi
      obtain ⟨σ7, a7, ox27, l7, k7, g7, _⟩ := markC_Int64S σ6 j2 x2 _ (1 + (runA a w).1.length) ox26 g6 (by omega) (by (try dsimp only); omega)
      have rd7 := rd6.keep l7 fun i hi => k7 i fun hj => by have := e2' i hj; have := i0' i hi; omega
      have ox17 := ox16.keep l7 fun i hi => k7 i fun hj => hd i hi hj
      have s7 := heldI_callk ox17 hl1 (by omega) (by omega)
      have s7' := heldI_callk ox27 hl2 (by omega) (by omega)
      obtain ⟨p8, m8, ids8, a8, o8, _, g8⟩ := callG toC_Checker a hsa σ7 g7
      have rd8 := rd7.grow m8
      have ox18 := ox17.grow m8
      have ox28 := ox27.grow m8
      generalize h8e : σ7 ++ m8 = σ8 at *
      obtain ⟨x3, x4, m9, j3, j4, a9, ox3, ox4, g9, _, _, _⟩ := runOf_call a hsa w (by omega) σ8 g8 o8
      have rd9 := rd8.grow m9
      have ox19 := ox18.grow m9
      have ox29 := ox28.grow m9
      generalize h9e : σ8 ++ m9 = σ9 at *
      have s9 := eqI_callR ox3 rd9 hl1
      have s9' := eqI_call ox4 hl2 b
      have s10 := heldI_callk ox19 hl1 (by omega) (by omega)
      have s10' := heldI_callk ox29 hl2 (by omega) (by omega)
      unfold Good at g3 g4 g5 g6 g7 g8 g9
      have w0 : ¬ ((1 : Int) + wChecker a < 0) := by omega
      have w1 : ¬ ((1 : Int) + (runA a w).1.length < 0) := by omega
      have w2 : ¬ ((1 : Int) + (runA a w).1.length + (runA a w).2.1.length < 0) := by omega
      subst hP
      simp [-callN, -callT] at s1 z1 e3 a1 kn2 kn3 kn4 kn5 a3 y3 s3 s3' a4 y4 s4 a5 s5 s5' a6 a7 s7 s7' a8 a9 s9 s9' s10 s10'
      simp [-callN, -callT, ac_laws_FnExactRunOf, cw, show ¬ 1048576 < (w.size : Int) by omega, show ¬ 1048576 < w.size by omega, show ¬ ((1048576 : Int) - Siz.size a < 0) by omega, s1, z1, e3, a1, kn2, kn3, kn4, kn5, a3, y3, s3, s3', a4, y4, s4, a5, s5, s5', a6, a7, s7, s7', a8, a9, s9, s9', s10, s10', w0, w1, w2, g3, g4, g5, g6, g7, g8, g9]
      done
    · rw [szR_no (by omega)] at e1
      have s1 := fun σ => callN_lone (σ := σ) (by simp [PV.bels]) e1 (by simp)
      simp [-callN, -callT] at s1
      simp [-callN, -callT, ac_laws_FnExactRunOf, cw, show ¬ 1048576 < (w.size : Int) by omega, show ¬ 1048576 < w.size by omega, s1]
  · simp [ac_laws_FnExactRunOf, show 1048576 < (w.size : Int) by omega, show 1048576 < w.size by omega]
end Go.Proofs.Ytegjfjckijmgcaa
