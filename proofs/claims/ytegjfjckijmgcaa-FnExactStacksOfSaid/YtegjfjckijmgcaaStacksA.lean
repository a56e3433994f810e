/- The stacks on the way: the program's and the reference's. -/
import Derived.Test.YtegjfjckijmgcaaGoOnA
set_option linter.unusedVariables false
set_option linter.unusedSimpArgs false
set_option maxRecDepth 100000
namespace Go.Proofs.Ytegjfjckijmgcaa
open Aw

/-- One more symbol: where it leads, and the stacks so far (behind the first, which is empty). -/
def stS (c : GChecker) (p : CSt × List (List Int)) (ch : Int) : CSt × List (List Int) := (stepC c p.1 ch, p.2 ++ [(stepC c p.1 ch).2])
@[simp] abbrev sS0 (c : GChecker) : CSt × List (List Int) := ((c.start, []), [])
theorem stS_len (c : GChecker) : ∀ (cs : List Int) (p : CSt × List (List Int)), (cs.foldl (stS c) p).2.length = p.2.length + cs.length
  | [], p => rfl
  | x :: cs, p => by
    rw [List.foldl_cons, stS_len c cs (stS c p x)]
    simp [stS]; omega
def stacksA (c : GChecker) (w : ByteArray) : List (List Int) × Int :=
  if (okCk c && okWord w) = true then ([] :: ((wl w).foldl (stS c) (sS0 c)).2, 0) else ([], 1)
/-- The stack at first: nil. -/
def V0 (z : PV) (k : Nat) (s : CSt) : PV := match k with | 0 => z | _ + 1 => lst 1 s.2
structure StI (c : GChecker) (k : Nat) (p : CSt × List (List Int)) : Prop where
  ck : CkI c k p.1
  ln : p.2.length = k
  z : k = 0 → p.1.2 = []
theorem StI.step {c : GChecker} (hok : okCk c = true) {k : Nat} {p : CSt × List (List Int)} (h : StI c k p) {ch : Int} (hc : 0 ≤ symIx ch) : StI c (k + 1) (stS c p ch) :=
  ⟨stepC_ok hok h.ck hc, by simp [stS, h.ln], fun h => by omega⟩
theorem StI.start {c : GChecker} (hok : okCk c = true) : StI c 0 (sS0 c) := ⟨CkI.start hok, rfl, fun _ => rfl⟩
theorem cz_own1 (l : List Int) (hl : l.length ≤ 1048576) (σ : List AObj) : cz true (callV fns (ev fns)) (.val (.func (.func i_spec_l00Own) #[] #[])) [lst 1 l] σ = some (lst 1 l, σ) := by
  have h6 := ev_spec_l00Own l hl
  simp at h6
  exact cz_made (fns := fns) (f := i_spec_l00Own) (args := [lst 1 l]) (r := (.own 0 0 0 l.length, [.row 1 (l.map Enc.pv) 0])) (q := lst 1 l) (by simp [PV.bels]) (by simp [h6]) (by simp; omega) σ
theorem lo_spec_StacksOf (c : GChecker) (hok : okCk c = true) (w : ByteArray) (hw : symW w) (hL : w.size ≤ 100000) (ks : List KI) :
    rE fns fa_spec_StacksOf 0 (.code lo_spec_StacksOf_0 :: .inBlock 0 :: ks) [(10, i64 0), (9, .list 1 [] true), (8, i64 c.start), (7, .own 0 0 0 1), (2, CkP c), (1, str w)] [.row 1 [.list 1 [] true] 0] =
      rE fns fa_spec_StacksOf 0 ks [(7, .own 0 0 0 (((wl w).foldl (stS c) (sS0 c)).2.length + 1))] [.row 1 (.list 1 [] true :: ((wl w).foldl (stS c) (sS0 c)).2.map Enc.pv) 0] := by
  have lo := loop_fold (F := fun k p => rE fns fa_spec_StacksOf 0 (.code lo_spec_StacksOf_0 :: .inBlock 0 :: ks) [(10, i64 (k : Nat)), (9, V0 (.list 1 [] true) k p.1), (8, i64 p.1.1), (7, .own 0 0 0 (p.2.length + 1)), (2, CkP c), (1, str w)] [.row 1 (.list 1 [] true :: p.2.map Enc.pv) 0]) (ls := wl w) (f := stS c) (fun k p => StI c k p)
    (fun k p hk hI => by
      have hc := hw _ (List.getElem_mem hk)
      refine ⟨?_, hI.step hok hc⟩
      have hk' : k < w.size := by simpa using hk
      have hwr := wrap_i64 (n := k + 1) (by omega)
      have hb := bt_wl hk'
      have hst := ev_spec_l02Step c hok k (by omega) p.1 hI.ck _ hc
      have hnx := (stepC_ok hok hI.ck hc).ln
      have hln := hI.ln
      have b1 : (p.2.length + 1 + 1) * 24 ≤ 140737488355328 := by omega
      have hz1 := cz_own1 (stepC c p.1 (wl w)[k]).2 (by omega)
      obtain ⟨⟨s1, s2⟩, h⟩ := p
      simp only at hst hln b1 hz1
      rw [l_spec_StacksOf_0]
      cases k with
      | zero =>
        have hz := hI.z rfl
        simp only at hz
        subst hz
        simp at hst hwr hb hz1
        simp [lb_spec_StacksOf_0, hk', hwr, hb, hst, V0, stS, b1, hz1]
      | succ k =>
        simp at hst hwr hb hz1
        simp [lb_spec_StacksOf_0, hk', show (k : Int) + 1 < w.size by omega, show (0 : Int) ≤ (k : Int) + 1 by omega, hwr, hb, hst, V0, stS, b1, hz1])
    (s := sS0 c) (StI.start hok)
  simp only [wl_length] at lo
  have h0 := lo.1
  simp only [V0] at h0
  refine Eq.trans ?_ (h0.trans ?_)
  · rfl
  · rw [l_spec_StacksOf_0]
    simp [lb_spec_StacksOf_0]
theorem ev_spec_StacksOf (c : GChecker) (hz : Siz.size c ≤ 1048576) (w : ByteArray) (hw : w.size ≤ 1048576) :
    ev fns i_spec_StacksOf [c.v, str w] [] = some (.tup [lst 1 (stacksA c w).1, i64 (stacksA c w).2], []) := by
  refine go_spec_StacksOf (by simp) ?_
  have h1 := ev_spec_l02Given c hz w hw
  unfold stacksA
  by_cases c1 : (okCk c && okWord w) = true
  · have c1' := c1
    simp only [Bool.and_eq_true] at c1
    rw [if_pos c1] at h1
    rw [if_pos c1']
    have lo := lo_spec_StacksOf c c1.1 w (okWord_symW c1.2) (by have := okWord_le c1.2; omega)
    have hn := stS_len c (wl w) (sS0 c)
    have hw6 := okWord_le c1.2
    simp at h1 lo hn
    simp [ac_spec_StacksOf, h1, lo, show ((wl w).foldl (stS c) ((c.start, []), [])).2.length ≤ 140737488355327 by omega]
    done
  · have c1' := c1
    simp only [Bool.and_eq_true] at c1
    rw [if_neg c1] at h1
    rw [if_neg c1']
    simp at h1
    simp [ac_spec_StacksOf, h1]
/-! ### The program's -/
/-- The state behind one more call of the function that collects. -/
abbrev stkN (σ : List AObj) (es : List PV) (v : Nat) (stk : List Int) : List AObj := ((σ ++ [AObj.row 1 (stk.map Enc.pv) 0]).set 2 (AObj.row 1 (es ++ [PV.own σ.length 0 0 stk.length]) (v + 1))).set 0 (AObj.row 1 [PV.own 2 (v + 1) 0 (es.length + 1)] 0)
theorem stkN_len (σ : List AObj) (es : List PV) (v : Nat) (stk : List Int) : (stkN σ es v stk).length = σ.length + 1 := by simp
theorem stkN_keep {σ : List AObj} (es : List PV) (v : Nat) (stk : List Int) {i : Nat} (h0 : i ≠ 0) (h3 : i ≠ 2) (hl : i < σ.length) : (stkN σ es v stk)[i]? = σ[i]? := by
  unfold stkN
  rw [List.getElem?_set_ne (by omega), List.getElem?_set_ne (by omega), List.getElem?_append_left hl]
theorem stkN_0 {σ : List AObj} (es : List PV) (v : Nat) (stk : List Int) : (stkN σ es v stk)[0]? = some (.row 1 [.own 2 (v + 1) 0 (es.length + 1)] 0) := by
  unfold stkN
  rw [List.getElem?_set_self (by simp)]
theorem stkN_3 {σ : List AObj} (es : List PV) (v : Nat) (stk : List Int) (hl : 3 ≤ σ.length) : (stkN σ es v stk)[2]? = some (.row 1 (es ++ [.own σ.length 0 0 stk.length]) (v + 1)) := by
  unfold stkN
  rw [List.getElem?_set_ne (by omega), List.getElem?_set_self (by simp; omega)]
theorem stkN_new {σ : List AObj} (es : List PV) (v : Nat) (stk : List Int) (hl : 3 ≤ σ.length) : (stkN σ es v stk)[σ.length]? = some (.row 1 (stk.map Enc.pv) 0) := by
  unfold stkN
  rw [List.getElem?_set_ne (by omega), List.getElem?_set_ne (by omega), List.getElem?_append_right (Nat.le_refl _)]
  simp
theorem nls_ints (l : List Int) : PV.nls (l.map Enc.pv) = true := by
  rw [PV.nls_iff]; intro p hp; obtain ⟨y, _, rfl⟩ := List.mem_map.1 hp; simp [PV.nl]
theorem stkN_good {σ : List AObj} {es : List PV} {v v' : Nat} (stk : List Int) (hg : GoodN σ) (hl : 3 ≤ σ.length) (h3 : σ[2]? = some (.row 1 es v')) : GoodN (stkN σ es v stk) := by
  have hb := objsBel_get hg.1 h3
  have hn : PV.nls es = true := by
    have := List.all_eq_true.1 hg.2 _ (List.mem_of_getElem? h3)
    simpa [AObj.nl] using this
  constructor
  · unfold Good
    rw [stkN_len]
    refine objsBel_set (objsBel_set (objsBel_app (objsBel_mono (by omega) hg.1) ?_) 2 1 (v + 1) ?_) 0 1 0 ?_
    · simp [objsBel, PV.bels, PV.bel]
    · rw [bels_append, PV.bels_le (by omega) hb]
      simp [PV.bels, PV.bel]
    · simp [PV.bels, PV.bel]
      try omega
  · refine all_nl_set (all_nl_set ?_ 2 ?_) 0 ?_
    · rw [List.all_append, hg.2]
      simp [AObj.nl, PV.nls, PV.nl, nls_ints]
    · simp only [AObj.nl]
      rw [PV.nls_iff] at hn ⊢
      intro p hp
      rcases List.mem_append.1 hp with hp | hp
      · exact hn p hp
      · simp at hp; subst hp; simp [PV.nl]
    · simp [AObj.nl, PV.nls, PV.nl]
theorem ev_StacksOf_1 (a : Int) (stk : List Int) (hs : stk.length ≤ 100000) (σ : List AObj) (es : List PV) (v : Nat) (h0 : σ[0]? = some (.row 1 [.own 2 v 0 es.length] 0)) (h3 : σ[2]? = some (.row 1 es v)) (hl : 3 ≤ σ.length) (he : es.length ≤ 1000) (hg : objsBel (stkN σ es v stk).length (stkN σ es v stk) = true) :
    ev fns i_impl_StacksOf_1 [i64 a, lst 1 stk, .ptr 0 0 0 0] σ = some (.tup [], stkN σ es v stk) := by
  refine go_impl_StacksOf_1 (by simp) ?_
  have hcl := ev_Clone stk (by omega)
  have b1 : (es.length + 1) * 24 ≤ 140737488355328 := by omega
  have hA : ∀ τ, (σ ++ τ)[0]? = some (.row 1 [.own 2 v 0 es.length] 0) := fun τ => by rw [List.getElem?_append_left (by omega)]; exact h0
  have hB : ∀ τ, (σ ++ τ)[2]? = some (.row 1 es v) := fun τ => by rw [List.getElem?_append_left (by omega)]; exact h3
  have hA2 : ∀ τ (h : 0 < (σ ++ τ).length), (σ ++ τ)[0]'h = .row 1 [.own 2 v 0 es.length] 0 := fun τ h => by
    have := hA τ
    rw [List.getElem?_eq_getElem h] at this
    exact Option.some.inj this
  have hneg : ¬ objsBel σ.length (List.take σ.length (stkN σ es v stk)) = true := fun h => by
    have h33 : (List.take σ.length (stkN σ es v stk))[2]? = some (.row 1 (es ++ [.own σ.length 0 0 stk.length]) (v + 1)) := by
      rw [List.getElem?_take, if_pos (by omega)]; exact stkN_3 es v stk hl
    have := objsBel_get h h33
    rw [bels_append] at this
    simp [PV.bels, PV.bel] at this
  simp at hcl hg hneg
  simp [ac_impl_StacksOf_1, hcl, h0, h3, hA, hA2, hB, b1, hg, hneg]
  done
/-- The run's state: where it is, the objects, the list's elements, the stacks. -/
abbrev NS := CSt × List AObj × List PV × List (List Int)
def stN (c : GChecker) (p : NS) (ch : Int) : NS := (stepC c p.1 ch, stkN p.2.1 p.2.2.1 (p.2.2.1.length - 1) (stepC c p.1 ch).2, p.2.2.1 ++ [.own p.2.1.length 0 0 (stepC c p.1 ch).2.length], p.2.2.2 ++ [(stepC c p.1 ch).2])
structure NI (c : GChecker) (k : Nat) (p : NS) : Prop where
  ck : CkI c k p.1
  ln : p.2.2.1.length = k + 1
  h0 : p.2.1[0]? = some (.row 1 [.own 2 k 0 (k + 1)] 0)
  h3 : p.2.1[2]? = some (.row 1 p.2.2.1 k)
  hl : 3 ≤ p.2.1.length
  g : GoodN p.2.1
  ow : ∃ is, OwnEs p.2.1 is p.2.2.1 p.2.2.2 ∧ is.flatten.Nodup ∧ ∀ i ∈ is.flatten, i ≠ 0 ∧ i ≠ 2 ∧ i < p.2.1.length
  z : k = 0 → p.1.2 = []
theorem NI.step {c : GChecker} (hok : okCk c = true) {k : Nat} (hk : k ≤ 1000) {p : NS} (h : NI c k p) {ch : Int} (hc : 0 ≤ symIx ch) : NI c (k + 1) (stN c p ch) := by
  obtain ⟨s, σ, es, l⟩ := p
  have hln := h.ln
  have hl := h.hl
  have h3 := h.h3
  simp only at hln hl h3
  have hv : es.length - 1 = k := by omega
  have nx := stepC_ok hok h.ck hc
  have nl := nx.ln
  simp only at nx nl
  refine ⟨nx, by simp [stN, hln], ?_, ?_, ?_, ?_, ?_, fun h => by omega⟩
  · simp only [stN, hv]; rw [stkN_0, hln]
  · simp only [stN, hv]; rw [stkN_3 _ _ _ hl]
  · simp only [stN]; rw [stkN_len]; omega
  · simp only [stN]; exact stkN_good _ h.g hl h3
  · obtain ⟨is, o, nd, lt⟩ := h.ow
    simp only at o nd lt
    refine ⟨is ++ [[σ.length]], ?_, ?_, ?_⟩
    · simp only [stN]
      refine OwnEs.snoc (o.frame fun i hi => ?_) ?_
      · have := lt i hi
        exact stkN_keep _ _ _ this.1 this.2.1 this.2.2
      · exact own_flat _ (stkN_new _ _ _ hl) (by omega)
    · simp only [List.flatten_append, List.flatten_cons, List.flatten_nil, List.append_nil]
      refine List.nodup_append.2 ⟨nd, by simp, fun a ha b hb => ?_⟩
      simp at hb; subst hb
      have := (lt a ha).2.2; omega
    · intro i hi
      simp only [List.flatten_append, List.flatten_cons, List.flatten_nil, List.append_nil, List.mem_append] at hi
      simp only [stN]
      rw [stkN_len]
      rcases hi with hi | hi
      · have := lt i hi; omega
      · simp at hi; subst hi; omega
abbrev nS0 (c : GChecker) : NS := ((c.start, []), [.row 1 [.own 2 0 0 1] 0, .row 1 [] 0, .row 1 [.own 1 0 0 0] 0], [.own 1 0 0 0], [[]])
theorem NI.start {c : GChecker} (hok : okCk c = true) : NI c 0 (nS0 c) := by
  refine ⟨CkI.start hok, rfl, rfl, rfl, by simp, ⟨by simp [Good, objsBel, PV.bels, PV.bel], by simp [AObj.nl, PV.nls, PV.nl]⟩, ⟨[[1]], ⟨?_, trivial⟩, by simp, by simp⟩, fun _ => rfl⟩
  exact own_flat (σ := [.row 1 [.own 2 0 0 1] 0, .row 1 [] 0, .row 1 [.own 1 0 0 0] 0]) (id := 1) (ver := 0) ([] : List Int) rfl (by simp)

theorem lo_run_StacksOf (c : GChecker) (hok : okCk c = true) (w : ByteArray) (hw : symW w) (hL : w.size ≤ 900) (ks : List KI) :
    rE fns fa_impl_Checker_run 1 (.code lo_impl_Checker_run_0 :: .inBlock 0 :: ks) [(17, i64 0), (16, i64 w.size), (5, CkP c), (4, .fn i_impl_StacksOf_1 [.ptr 0 0 0 0]), (3, str w), (2, .val (.slice none 0 0)), (1, i64 c.start)] (nS0 c).2.1 =
      rE fns fa_impl_Checker_run 1 ks [] ((wl w).foldl (stN c) (nS0 c)).2.1 ∧ NI c w.size ((wl w).foldl (stN c) (nS0 c)) := by
  have lo := loop_fold (F := fun k p => rE fns fa_impl_Checker_run 1 (.code lo_impl_Checker_run_0 :: .inBlock 0 :: ks) [(17, i64 (k : Nat)), (16, i64 w.size), (5, CkP c), (4, .fn i_impl_StacksOf_1 [.ptr 0 0 0 0]), (3, str w), (2, V0 (.val (.slice none 0 0)) k p.1), (1, i64 p.1.1)] p.2.1) (ls := wl w) (f := stN c) (fun k p => NI c k p)
    (fun k p hk hI => by
      have hc := hw _ (List.getElem_mem hk)
      have hk' : k < w.size := by simpa using hk
      refine ⟨?_, hI.step hok (by omega) hc⟩
      have hwr := wrap_i64 (n := k + 1) (by omega)
      have hb := bt_wl hk'
      have hst := ev_impl_step c hok k (by omega) p.1 hI.ck _ hc
      have hnx := (stepC_ok hok hI.ck hc).ln
      have hln := hI.ln
      have hv : p.2.2.1.length - 1 = k := by omega
      have h0 := hI.h0
      rw [← hln] at h0
      have hcl := ev_StacksOf_1 (stepC c p.1 (wl w)[k]).1 (stepC c p.1 (wl w)[k]).2 (by omega) p.2.1 p.2.2.1 (p.2.2.1.length - 1) (by rw [hv]; exact h0) (by rw [hv]; exact hI.h3) hI.hl (by omega) (stkN_good _ hI.g hI.hl hI.h3).1
      generalize hq : stkN p.2.1 p.2.2.1 (p.2.2.1.length - 1) (stepC c p.1 (wl w)[k]).2 = σ' at hcl
      have hf : (stN c p (wl w)[k]).2.1 = σ' := hq
      have hf1 : (stN c p (wl w)[k]).1 = stepC c p.1 (wl w)[k] := rfl
      rw [l_impl_Checker_run_0]
      simp only [hf, hf1]
      obtain ⟨⟨s1, s2⟩, σ, es, l⟩ := p
      simp only at hst hcl ⊢
      cases k with
      | zero =>
        have hz := hI.z rfl
        simp only at hz
        subst hz
        simp at hst hwr hb hcl
        simp [lb_impl_Checker_run_0, hk', hwr, hb, hst, V0, hcl]
      | succ k =>
        simp at hst hwr hb hcl
        simp [lb_impl_Checker_run_0, hk', show (k : Int) + 1 < w.size by omega, show (0 : Int) ≤ (k : Int) + 1 by omega, hwr, hb, hst, V0, hcl])
    (s := nS0 c) (NI.start hok)
  simp only [wl_length] at lo
  have h0 := lo.1
  simp only [V0] at h0
  refine ⟨Eq.trans ?_ (h0.trans ?_), lo.2⟩
  · rfl
  · rw [l_impl_Checker_run_0]
    simp [lb_impl_Checker_run_0]
theorem ev_run_StacksOf (c : GChecker) (hok : okCk c = true) (w : ByteArray) (hw : symW w) (hL : w.size ≤ 900) :
    ev fns i_impl_Checker_run [c.v, i64 c.start, .val (.slice none 0 0), str w, .fn i_impl_StacksOf_1 [.ptr 0 0 0 0]] [.row 1 [.list 1 [] true] 0] = some (.tup [], ((wl w).foldl (stN c) (nS0 c)).2.1) := by
  refine go_impl_Checker_run (by simp) ?_
  have hcn : ev fns i_slices_Clone_L_int64 [.val (.slice none 0 0)] [] = some (.own 0 0 0 0, [.row 1 [] 0]) := by
    rw [sp_slices_Clone_L_int64]; simp [spClone]
  have hcl : ev fns i_impl_StacksOf_1 [i64 c.start, .val (.slice none 0 0), .ptr 0 0 0 0] [.row 1 [.list 1 [] true] 0] = some (.tup [], (nS0 c).2.1) := by
    refine go_impl_StacksOf_1 (by simp) ?_
    simp [ac_impl_StacksOf_1, hcn]
  have lo := fun ks => (lo_run_StacksOf c hok w hw hL ks).1
  have hI := (lo_run_StacksOf c hok w hw hL []).2
  generalize (wl w).foldl (stN c) (nS0 c) = p at lo hI ⊢
  have hg := hI.g.1
  unfold Good at hg
  have h0 := hI.h0
  have hl := hI.hl
  have hneg : ¬ objsBel 1 (List.take 1 p.2.1) = true := fun h => by
    have h00 : (List.take 1 p.2.1)[0]? = some (.row 1 [.own 2 w.size 0 (w.size + 1)] 0) := by rw [List.getElem?_take, if_pos (by omega)]; exact h0
    have := objsBel_get h h00
    simp [PV.bels, PV.bel] at this
  simp at lo hcl hneg
  simp [ac_impl_Checker_run, hcl, lo, hg, hneg, show 1 ≤ p.2.1.length by omega]
  done

def stks (c : GChecker) : CSt → List Int → List (List Int)
  | _, [] => []
  | s, x :: cs => (stepC c s x).2 :: stks c (stepC c s x) cs
theorem stN_l (c : GChecker) : ∀ (cs : List Int) (p : NS), (cs.foldl (stN c) p).2.2.2 = p.2.2.2 ++ stks c p.1 cs
  | [], p => by simp [stks]
  | x :: cs, p => by rw [List.foldl_cons, stN_l c cs (stN c p x)]; simp [stN, stks]
theorem stS_l (c : GChecker) : ∀ (cs : List Int) (p : CSt × List (List Int)), (cs.foldl (stS c) p).2 = p.2 ++ stks c p.1 cs
  | [], p => by simp [stks]
  | x :: cs, p => by rw [List.foldl_cons, stS_l c cs (stS c p x)]; simp [stS, stks]
theorem stks_len (c : GChecker) : ∀ (cs : List Int) (s : CSt), (stks c s cs).length = cs.length
  | [], s => rfl
  | x :: cs, s => by simp [stks, stks_len c cs]
theorem stks_mem {c : GChecker} (hok : okCk c = true) : ∀ (cs : List Int) (L : Nat) (s : CSt), CkI c L s → (∀ ch ∈ cs, 0 ≤ symIx ch) → ∀ y ∈ stks c s cs, y.length ≤ L + cs.length
  | [], L, s, h, _, y, hy => by simp [stks] at hy
  | x :: cs, L, s, h, hc, y, hy => by
    have h1 := stepC_ok hok h (hc x (by simp))
    rcases List.mem_cons.1 hy with rfl | hy
    · have := h1.ln; simp; omega
    · have := stks_mem hok cs (L + 1) _ h1 (fun ch h => hc ch (by simp [h])) y hy
      simp; omega
theorem sum_le60 : ∀ (l : List (List Int)), (∀ y ∈ l, y.length ≤ 60) → Siz.sum l ≤ 60 * l.length
  | [], _ => by simp [Siz.sum]
  | x :: l, h => by
    have h1 := sum_le60 l fun y hy => h y (by simp [hy])
    have h2 := h x (by simp)
    rw [← Siz.size_flat_int] at h2
    simp only [Siz.sum, List.length_cons]; omega
theorem stacksA_size (c : GChecker) (w : ByteArray) : Siz.size (stacksA c w).1 ≤ 10000 := by
  unfold stacksA
  split
  · rename_i c1
    simp only [Bool.and_eq_true] at c1
    have h3 := okWord_le c1.2
    rw [stS_l]
    simp only [List.nil_append]
    have h1 := stks_len c (wl w) (c.start, [])
    have h2 := stks_mem c1.1 (wl w) 0 _ (CkI.start c1.1) (okWord_symW c1.2)
    simp at h1 h2
    have := sum_le60 ([] :: stks c (c.start, []) (wl w)) (fun y hy => by
      rcases List.mem_cons.1 hy with rfl | hy
      · simp
      · have := h2 y hy; omega)
    rw [Siz.size_list]
    simp only [List.length_cons, h1] at *
    omega
  · simp [Siz.size_list, Siz.sum]
theorem ev_impl_StacksOf (c : GChecker) (hz : Siz.size c ≤ 1048576) (w : ByteArray) (hw : w.size ≤ 1048576) :
    ∃ p τ ids, ev fns i_impl_StacksOf [c.v, str w] [] = some (.tup [p, i64 (stacksA c w).2], τ) ∧ OwnIn τ ids p (stacksA c w).1 ∧ GoodN τ := by
  have h1 := ev_impl_ValidChecker c hz
  have h2 := ev_impl_ValidWord w (by omega)
  simp at h1 h2
  have own_nil2 : OwnIn [] [] (.val (.slice none 0 0)) ([] : List (List Int)) := ⟨.inl ⟨rfl, rfl, rfl⟩, by simp, by simp⟩
  unfold stacksA
  cases c1 : okCk c
  · rw [c1] at h1
    refine ⟨.val (.slice none 0 0), [], [], go_impl_StacksOf (by simp) ?_, own_nil2, GoodN.nil⟩
    simp [ac_impl_StacksOf, h1]
  rw [c1] at h1
  cases c2 : okWord w
  · rw [c2] at h2
    refine ⟨.val (.slice none 0 0), [], [], go_impl_StacksOf (by simp) ?_, own_nil2, GoodN.nil⟩
    simp [ac_impl_StacksOf, h1, h2]
  rw [c2] at h2
  have hw6 := okWord_le c2
  have hr := ev_run_StacksOf c c1 w (okWord_symW c2) (by omega)
  have hI := (lo_run_StacksOf c c1 w (okWord_symW c2) (by omega) []).2
  have hl := stN_l c (wl w) (nS0 c)
  have hs := stS_l c (wl w) (sS0 c)
  have hkl := stks_len c (wl w) (c.start, [])
  simp only [wl_length] at hkl
  simp only [List.nil_append] at hs
  rw [show ((nS0 c).1) = (c.start, []) from rfl] at hl
  rw [show ((nS0 c).2.2.2) = [[]] from rfl] at hl
  generalize (wl w).foldl (stN c) (nS0 c) = p at hr hI hl
  obtain ⟨is, o, nd, lt⟩ := hI.ow
  rw [hl] at o
  have hg := hI.g.1
  unfold Good at hg
  have h0 := hI.h0
  refine ⟨.own 2 w.size 0 (w.size + 1), p.2.1, 2 :: is.flatten, go_impl_StacksOf (by simp) ?_, ⟨?_, ?_, ?_⟩, hI.g⟩
  · have hbp : 2 < p.2.1.length := by have := hI.hl; omega
    simp at hr
    simp [ac_impl_StacksOf, h1, h2, hr, h0, hg, hbp]
  · refine .inr ⟨2, w.size, p.2.2.1, is, ?_, hI.h3, ?_, rfl, ?_⟩
    · simp [hs, hkl]
    · simp [hs, hkl]; omega
    · simpa [hs] using o
  · rw [List.nodup_cons]
    exact ⟨fun h => (lt 2 h).2.1 rfl, nd⟩
  · intro i hi
    rcases List.mem_cons.1 hi with rfl | hi
    · have := hI.hl; omega
    · exact (lt i hi).2.2

/-! ### What the law's calls come to -/
@[simp] abbrev shS : Sh := .lst 1 (.lst 1 .any)
theorem readS {σ : List AObj} {ids : List Nat} {p : PV} {x : List (List Int)} (h : OwnIn σ ids p x) : ∃ q, dfr σ 9 p = some q ∧ PV.ty shS q = Enc.pv x := h.read (by decide)
theorem stacks_call (c : GChecker) (hz : Siz.size c ≤ 1048576) (w : ByteArray) (hw : w.size ≤ 1048576) (σ : List AObj) (hg : Good σ) {P : PV} {ids : List Nat} (oP : OwnIn σ ids P c) :
    ∃ p m j, callT fns [shC, .any] i_impl_StacksOf [P, str w] σ = some (.tup [p, i64 (stacksA c w).2], σ ++ m) ∧ OwnIn (σ ++ m) j p (stacksA c w).1 ∧ Good (σ ++ m) ∧ (∀ i ∈ j, σ.length ≤ i) := by
  obtain ⟨p, τ, j, e, o, g⟩ := ev_impl_StacksOf c hz w hw
  obtain ⟨qP, dP, yP⟩ := readC oP
  refine ⟨p.sh σ.length, τ.map (AObj.sh σ.length), j.map (· + σ.length), ?_, o.shift σ, hg.app g.1, fun i hi => ?_⟩
  · have := callT_read (fns := fns) (ss := [shC, .any]) (f := i_impl_StacksOf) (args := [P, str w]) (qs := [qP, str w]) (σ := σ) (by simp only [mapO, dP]; simp [dfr]) (by simp only [PV.tys, yP]; exact e) ⟨by simp [PV.nl, PV.nls, Own.nl o.own], g.2⟩
    rw [this]
    simp [behind, PV.sh, PV.shs]
  · obtain ⟨k, _, rfl⟩ := List.mem_map.1 hi; omega
theorem ty_stacks (l : List (List Int)) : PV.ty shS (lst 1 l) = lst 1 l := by
  simp only [shS, lst, PV.ty_list, List.map_map]
  congr 1
  apply List.map_congr_left
  intro x _
  show PV.ty (.lst 1 .any) (.list 1 (x.map Enc.pv) false) = .list 1 (x.map Enc.pv) false
  rw [PV.ty_list, PV.ty_any, List.map_id]
theorem eqS_call {σ : List AObj} {p : PV} {ids : List Nat} {l : List (List Int)} (o : OwnIn σ ids p l) (hl : Siz.size l ≤ 10000) : callT fns [shS, shS] i_laws_eqInt64SS [p, lst 1 l] σ = some (bol true, σ) := by
  obtain ⟨q, d, y⟩ := readS o
  exact callT_readL (qs := [q, lst 1 l]) (by simp only [mapO, d]; simp [dfr]) (by simp only [PV.tys]; rw [y, ty_stacks]; have := ev_laws_eqInt64SS l l (by omega); simpa using this) (by simp) (by simp [PV.nl])
theorem heldS_call {σ : List AObj} {p : PV} {ids : List Nat} {l : List (List Int)} (o : OwnIn σ ids p (mkL (fun xs : List Int => 1 * xs.length) (mkF 1 (fun k => k)) l 1)) (hl : sumW (fun xs : List Int => 1 * xs.length) l ≤ 1048576) : callT fns [shS, .any] i_laws_heldInt64SS [p, i64 1] σ = some (i64 (1 + sumW (fun xs : List Int => 1 * xs.length) l), σ) := by
  obtain ⟨q, d, y⟩ := readS o
  have h := heldC_Int64SS σ ids p l 1 o.own (by omega) (by omega)
  exact callT_readL (qs := [q, i64 1]) (by simp only [mapO, d]; simp [dfr]) (by simp only [PV.tys, y]; exact h) (by simp) (by simp [PV.nl])
set_option maxHeartbeats 8000000 in
theorem ev_FnExactStacksOf (a : GChecker) (w : ByteArray) (fa : Siz.fits a) (fw : Siz.fits w) : ev fns i_laws_FnExactStacksOf [a.v, str w] [] = some (bol true, []) := by
  refine go_laws_FnExactStacksOf (by simp) ?_
  by_cases cw : (w.size : Int) ≤ 1048576
  · have e1 := ev_laws_szChecker a 1048576 (by omega) (by omega) fa
    by_cases c1 : (Siz.size a : Int) ≤ 1048576
    · rw [szR_ok c1] at e1
      have s1 := fun σ => callN_lone (σ := σ) (by simp [PV.bels]) e1 (by simp)
      have hsa : Siz.size a ≤ 1048576 := by omega
      have hsz := stacksA_size a w
      have hW := wChecker_le a
      have hWS : sumW (fun xs : List Int => 1 * xs.length) (stacksA a w).1 ≤ 2 * Siz.size (stacksA a w).1 := sumW_le (fun y => by have := Siz.len_le y; (try dsimp only); omega) _
      obtain ⟨q1, b1, y1, z1⟩ := cz_own toC_Checker a hsa dep_Checker (fun r h => by simp [-callN, -callT] at h ⊢; exact h)
      replace y1 : PV.ty shC q1 = a.v := y1
      have e3 := callT_loneT (σ := []) (fns := fns) (f := i_spec_StacksOf) (ss := [shC, .any]) (args := [q1, str w]) (by simp [PV.bels, b1]) (by simp only [PV.tys, y1]; rfl) (ev_spec_StacksOf a hsa w (by omega)) (by simp)
      obtain ⟨p1, σb, ids1, a1, o1, d1, g1⟩ := callG toC_Checker a hsa [] GoodN.nil.1
      obtain ⟨i0, r0, i1, r1, i2, r2, i3, r3, i4, r4, i5, r5, rfl, rfl, ⟨rfl, rfl⟩, ⟨rfl, rfl⟩, h2, h3, h4, h5⟩ := o1.own
      have kn2 := (own_one h2).2.2.2
      have kn3 := (own_one h3).2.2.2
      have kn4 := (own_one h4).2.2.2
      have kn5 := (own_one h5).2.2.2
      rw [List.nil_append] at a1 o1 g1
      generalize hP : PV.agg [Enc.pv a.stack, Enc.pv a.start, r2, r3, r4, r5] = P at *
      have g2 : Good (σb ++ [AObj.row 6 [P] 0]) := by
        unfold Good
        rw [List.length_append]
        refine objsBel_app (objsBel_mono (by omega) g1) ?_
        simp only [objsBel, PV.bels, Bool.and_true]
        exact PV.bel_le (by omega) o1.bel
      have o2 := o1.grow [AObj.row 6 [P] 0]
      obtain ⟨x1, m3, j1, a3, ox1, g3, e1'⟩ := stacks_call a hsa w (by omega) _ g2 o2
      have o3 := o2.grow m3
      have y3 : ((σb ++ [AObj.row 6 [P] 0]) ++ m3)[σb.length]? = some (.row 6 [P] 0) := by rw [List.getElem?_append_left (by simp)]; simp
      have hl3 : σb.length < ((σb ++ [AObj.row 6 [P] 0]) ++ m3).length := by simp <;> omega
      simp only [List.length_append, List.length_singleton] at e1'
      generalize h3e : (σb ++ [AObj.row 6 [P] 0]) ++ m3 = σ3 at *
      have s3 := eqS_call ox1 hsz
      obtain ⟨p4, m4, ids4, a4, o4, _, g4⟩ := callG toC_Checker a hsa σ3 g3
      have oP4 := o3.grow m4
      have ox14 := ox1.grow m4
      have y4 : (σ3 ++ m4)[σb.length]? = some (.row 6 [P] 0) := by rw [List.getElem?_append_left (by omega)]; exact y3
      have s4 := eqC_call2 oP4 o4 hsa
      generalize h4e : σ3 ++ m4 = σ4 at *
      have iP : ∀ i ∈ ([] ++ [] ++ i2 ++ i3 ++ i4 ++ i5), i < σb.length := o1.lt
      obtain ⟨σ5, a5, oP5, l5, k5, g5, _⟩ := markC_Checker σ4 _ P a 1 oP4 g4 (by omega) (by omega)
      have ox15 := ox14.keep l5 fun i hi => k5 i fun hj => by have := iP i hj; have := e1' i hi; omega
      have s5 := eqS_call ox15 hsz
      obtain ⟨σ6, a6, ox16, l6, k6, g6, _⟩ := markC_Int64SS σ5 j1 x1 _ 1 ox15 g5 (by omega) (by omega)
      have s6 := heldS_call ox16 (by omega)
      obtain ⟨p8, m8, ids8, a8, o8, _, g8⟩ := callG toC_Checker a hsa σ6 g6
      have ox18 := ox16.grow m8
      generalize h8e : σ6 ++ m8 = σ8 at *
      obtain ⟨x3, m9, j3, a9, ox3, g9, _⟩ := stacks_call a hsa w (by omega) σ8 g8 o8
      have ox19 := ox18.grow m9
      generalize h9e : σ8 ++ m9 = σ9 at *
      have s9 := eqS_call ox3 hsz
      have s10 := heldS_call ox19 (by omega)
      unfold Good at g3 g4 g5 g6 g8 g9
      have w0 : ¬ ((1 : Int) + wChecker a < 0) := by omega
      have w1 : ¬ ((1 : Int) + sumW (fun xs : List Int => 1 * xs.length) (stacksA a w).1 < 0) := by omega
      subst hP
      generalize hWe : sumW (fun xs : List Int => 1 * xs.length) (stacksA a w).1 = Wn at *
      simp [-callN, -callT] at s1 z1 e3 a1 kn2 kn3 kn4 kn5 a3 y3 s3 a4 y4 s4 a5 s5 a6 s6 a8 a9 s9 s10
      simp [-callN, -callT, ac_laws_FnExactStacksOf, cw, show ¬ 1048576 < (w.size : Int) by omega, show ¬ 1048576 < w.size by omega, show ¬ ((1048576 : Int) - Siz.size a < 0) by omega, s1, z1, e3, a1, kn2, kn3, kn4, kn5, a3, y3, s3, a4, y4, s4, a5, s5, a6, s6, a8, a9, s9, s10, w0, w1, g3, g4, g5, g6, g8, g9]
      done
    · rw [szR_no (by omega)] at e1
      have s1 := fun σ => callN_lone (σ := σ) (by simp [PV.bels]) e1 (by simp)
      simp [-callN, -callT] at s1
      simp [-callN, -callT, ac_laws_FnExactStacksOf, cw, show ¬ 1048576 < (w.size : Int) by omega, show ¬ 1048576 < w.size by omega, s1]
  · simp [ac_laws_FnExactStacksOf, show 1048576 < (w.size : Int) by omega, show 1048576 < w.size by omega]
end Go.Proofs.Ytegjfjckijmgcaa
