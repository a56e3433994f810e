/- Where matched words lead: the program's and the reference's PairsOf. -/
import Derived.Test.YtipmgemnjcjobaaGreatSpKnown
import Derived.Test.YtipmgemnjcjobaaGreatLwC
set_option linter.unusedVariables false
set_option linter.unusedSimpArgs false
set_option maxRecDepth 100000
namespace Go.Proofs.YtipmgemnjcjobaaGreat
open Aw
/-! ### Tables, each row in an object of its own -/
def esOf : Nat → List (List Int) → List PV
  | _, [] => []
  | k, l :: ls => .own k 0 0 l.length :: esOf (k + 1) ls
def isOf : Nat → List (List Int) → List (List Nat)
  | _, [] => []
  | k, _ :: ls => [k] :: isOf (k + 1) ls
def rowsOf (ls : List (List Int)) : List AObj := ls.map fun l => .row 1 (l.map Enc.pv) 0
theorem esOf_len : ∀ (ls : List (List Int)) (k : Nat), (esOf k ls).length = ls.length
  | [], _ => rfl
  | _ :: ls, k => by simp [esOf, esOf_len ls]
theorem isOf_mem : ∀ (ls : List (List Int)) (k i : Nat), i ∈ (isOf k ls).flatten → k ≤ i ∧ i < k + ls.length
  | [], _, _, h => by simp [isOf] at h
  | l :: ls, k, i, h => by
    simp only [isOf, List.flatten_cons, List.singleton_append, List.mem_cons] at h
    rcases h with rfl | h
    · simp
    · have := isOf_mem ls (k + 1) i h; simp; omega
theorem isOf_nd : ∀ (ls : List (List Int)) (k : Nat), (isOf k ls).flatten.Nodup
  | [], _ => by simp [isOf]
  | l :: ls, k => by
    simp only [isOf, List.flatten_cons, List.singleton_append, List.nodup_cons]
    exact ⟨fun h => by have := isOf_mem ls (k + 1) k h; omega, isOf_nd ls (k + 1)⟩
theorem esOf_own {σ : List AObj} : ∀ (ls : List (List Int)) (k : Nat), (∀ j (h : j < ls.length), σ[k + j]? = some (.row 1 ((ls[j]).map Enc.pv) 0)) → (∀ l ∈ ls, l.length ≤ 140737488355328) → OwnEs σ (isOf k ls) (esOf k ls) ls
  | [], _, _, _ => trivial
  | l :: ls, k, h, hl => by
    refine ⟨own_flat l (by have h0 := h 0 (by simp); rw [Nat.add_zero] at h0; exact h0) (hl l (by simp)), esOf_own ls (k + 1) (fun j hj => ?_) fun x hx => hl x (by simp [hx])⟩
    have := h (j + 1) (by simp; omega)
    rw [show k + (j + 1) = k + 1 + j by omega] at this
    exact this
theorem esOf_bels : ∀ (ls : List (List Int)) (k n : Nat), k + ls.length ≤ n → PV.bels n (esOf k ls) = true
  | [], _, _, _ => rfl
  | l :: ls, k, n, h => by
    simp only [esOf, PV.bels, PV.bel, Bool.and_eq_true, decide_eq_true_eq]
    simp only [List.length_cons] at h
    exact ⟨by omega, esOf_bels ls (k + 1) n (by omega)⟩
theorem esOf_nls : ∀ (ls : List (List Int)) (k : Nat), PV.nls (esOf k ls) = true
  | [], _ => rfl
  | l :: ls, k => by simp [esOf, PV.nls, PV.nl, esOf_nls ls (k + 1)]
theorem nls_intsP (l : List Int) : PV.nls (l.map Enc.pv) = true := by
  rw [PV.nls_iff]; intro p hp; obtain ⟨y, _, rfl⟩ := List.mem_map.1 hp; simp [PV.nl]
theorem rowsOf_bel (n : Nat) : ∀ ls : List (List Int), objsBel n (rowsOf ls) = true
  | [] => rfl
  | l :: ls => by
    simp only [rowsOf, List.map_cons, objsBel, Bool.and_eq_true]
    exact ⟨bels_map l n, rowsOf_bel n ls⟩
theorem rowsOf_nl (ls : List (List Int)) : (rowsOf ls).all AObj.nl = true := by
  rw [List.all_eq_true]
  intro o ho
  obtain ⟨l, _, rfl⟩ := List.mem_map.1 ho
  exact nls_intsP l
/-- A table of rows, its objects behind one that holds plain data. -/
def tabS (p : PV) (ls : List (List Int)) (v : Nat) : List AObj := .row 6 [p] 0 :: .row 1 (esOf 2 ls) v :: rowsOf ls
theorem tabS_own (p : PV) (ls : List (List Int)) (v : Nat) (h5 : ls.length ≤ 5) (hl : ∀ l ∈ ls, l.length ≤ 6) : OwnIn (tabS p ls v) (1 :: (isOf 2 ls).flatten) (.own 1 v 0 ls.length) ls := by
  refine ⟨.inr ⟨1, v, esOf 2 ls, isOf 2 ls, rfl, by simp [tabS], by omega, rfl, esOf_own ls 2 (fun j hj => ?_) fun l h => by have := hl l h; omega⟩, ?_, fun i hi => ?_⟩
  · unfold tabS rowsOf
    rw [show 2 + j = (j + 1) + 1 by omega, List.getElem?_cons_succ, List.getElem?_cons_succ, List.getElem?_map, List.getElem?_eq_getElem hj]
    rfl
  · rw [List.nodup_cons]
    exact ⟨fun h => by have := isOf_mem ls 2 1 h; omega, isOf_nd ls 2⟩
  · have : (tabS p ls v).length = ls.length + 2 := by simp [tabS, rowsOf]
    rw [this]
    rcases List.mem_cons.1 hi with rfl | hi
    · omega
    · have := isOf_mem ls 2 i hi; omega
theorem tabS_good (p : PV) (hp : p.bel 0 = true) (hn : p.nl = true) (ls : List (List Int)) (v : Nat) : GoodN (tabS p ls v) := by
  have hlen : (tabS p ls v).length = ls.length + 2 := by simp [tabS, rowsOf]
  refine ⟨?_, ?_⟩
  · unfold Good
    rw [hlen]
    simp only [tabS, objsBel, Bool.and_eq_true]
    exact ⟨by simp [PV.bels, PV.bel_le (Nat.zero_le _) hp], esOf_bels ls 2 _ (by omega), rowsOf_bel _ ls⟩
  · simp only [tabS, List.all_cons, Bool.and_eq_true]
    exact ⟨by simp [AObj.nl, PV.nls, hn], esOf_nls ls 2, rowsOf_nl ls⟩
/-! ### PairsOf -/
def prL (m : GChoices) (v : Vw) : List (List Int) := (List.range m.accept.length).map fun s => stN (v.p s)
def prA (m : GChoices) (w : ByteArray) : List (List Int) × Int := if okCh m = true ∧ okWord w = true then (if isM w = true then (prL m (knK m w), 0) else ([], 4)) else ([], 1)
set_option maxHeartbeats 16000000 in
theorem lo_prI {m : GChoices} (hok : okCh m = true) {v : Vw} (hv : okV m.accept.length v) (ks : List KI) :
    rE fns fa_impl_PairsOf 0 (.code lo_impl_PairsOf_0 :: .inBlock 1 :: ks) [(29, i64 0), (28, i64 m.accept.length), (7, .own 1 0 0 0), (6, .ptr 0 0 0 0)] [.row 6 [v.u] 0, .row 1 [] 0] =
      rE fns fa_impl_PairsOf 0 ks [(7, .own 1 m.accept.length 0 m.accept.length)] (tabS v.u (prL m v) m.accept.length) := by
  obtain ⟨n1, n5, -, -⟩ := okCh_n hok
  have s0 := ev_impl_states (pow32 n5 (hv.p 0))
  have s1 := ev_impl_states (pow32 n5 (hv.p 1))
  have s2 := ev_impl_states (pow32 n5 (hv.p 2))
  have s3 := ev_impl_states (pow32 n5 (hv.p 3))
  have s4 := ev_impl_states (pow32 n5 (hv.p 4))
  simp at s0 s1 s2 s3 s4
  have hn : m.accept.length = 1 ∨ m.accept.length = 2 ∨ m.accept.length = 3 ∨ m.accept.length = 4 ∨ m.accept.length = 5 := by omega
  unfold prL
  simp only [Vw.u]
  rcases hn with hn | hn | hn | hn | hn <;> rw [hn]
  all_goals
    rw [l_impl_PairsOf_0]
    simp [lb_impl_PairsOf_0, hn, s0, s1, s2, s3, s4, wk1, wk2, wk3, wk4, wk5, setCells, tabS, esOf, rowsOf, List.range_succ]
    repeat (rw [l_impl_PairsOf_0]; simp [lb_impl_PairsOf_0, hn, s0, s1, s2, s3, s4, wk1, wk2, wk3, wk4, wk5, setCells, tabS, esOf, rowsOf, List.range_succ])
theorem prL_len (m : GChoices) (v : Vw) : (prL m v).length = m.accept.length := by simp [prL]
theorem prL_row (m : GChoices) (v : Vw) : ∀ l ∈ prL m v, l.length ≤ 6 := by
  intro l hl
  obtain ⟨s, _, rfl⟩ := List.mem_map.1 hl
  exact stN_len _
set_option maxHeartbeats 16000000 in
theorem imC_PairsOf (m : GChoices) (hz : Siz.size m ≤ 1048576) (w : ByteArray) (hw : w.size ≤ 1048576) : ∃ q τ ids, ev fns i_impl_PairsOf [m.v, str w] [] = some (.tup [q, i64 (prA m w).2], τ) ∧ OwnIn τ ids q (prA m w).1 ∧ GoodN τ := by
  have h1 := ev_impl_ValidChoices m hz
  have h2 := ev_impl_ValidWord w (by omega)
  have h2' := ev_impl_isMatched w hw
  simp at h1 h2 h2'
  have own_nil2 : OwnIn [] [] (.val (.slice none 0 0)) ([] : List (List Int)) := ⟨.inl ⟨rfl, rfl, rfl⟩, by simp, by simp⟩
  unfold prA
  by_cases c1 : okCh m = true ∧ okWord w = true
  · rw [c1.1] at h1
    rw [c1.2] at h2
    rw [if_pos c1]
    cases c2 : isM w
    · rw [c2] at h2'
      refine ⟨.val (.slice none 0 0), [], [], go_impl_PairsOf (by simp) ?_, own_nil2, GoodN.nil⟩
      simp [ac_impl_PairsOf, h1, h2, h2']
      done
    · rw [c2] at h2'
      have hv := knK_ok c1.1 w
      have h3 := ev_Choices_known c1.1 hz w (okWord_symK c1.2) (by have := okWord_leK c1.2; omega)
      have lo := lo_prI c1.1 hv
      have n5 := (okCh_n c1.1).2.1
      have ho := tabS_own (knK m w).u (prL m (knK m w)) m.accept.length (by rw [prL_len]; exact n5) (prL_row _ _)
      have hg := tabS_good (knK m w).u (by simp [Vw.u, PV.bel, PV.bels]) (by simp [Vw.u, PV.nl, PV.nls]) (prL m (knK m w)) m.accept.length
      rw [prL_len] at ho
      rw [if_pos rfl]
      refine ⟨_, _, _, go_impl_PairsOf (by simp) ?_, ho, hg⟩
      have hg1 := hg.1
      unfold Good at hg1
      have ht : 1 < (tabS (knK m w).u (prL m (knK m w)) m.accept.length).length := by simp [tabS]
      simp only [Vw.u] at lo hg1 ht ⊢
      simp [Vw.u] at h3
      simp at lo hg1 ht
      simp [ac_impl_PairsOf, h1, h2, h2', h3, lo, hg1, ht]
      done
  · rw [if_neg c1]
    refine ⟨.val (.slice none 0 0), [], [], go_impl_PairsOf (by simp) ?_, own_nil2, GoodN.nil⟩
    cases c2 : okCh m
    · rw [c2] at h1
      simp [ac_impl_PairsOf, h1]
    · rw [c2] at h1
      cases c3 : okWord w
      · rw [c3] at h2
        simp [ac_impl_PairsOf, h1, h2]
      · exact absurd ⟨c2, c3⟩ c1
set_option maxHeartbeats 16000000 in
theorem lo_prS {m : GChoices} (hok : okCh m = true) {v : Vw} (hv : okV m.accept.length v) (ks : List KI) :
    rE fns fa_spec_PairsOf 0 (.code lo_spec_PairsOf_0 :: .inBlock 0 :: ks) [(9, i64 0), (8, .own 1 0 0 0), (7, .ptr 0 0 0 0), (2, ChP m)] [.row 6 [v.i] 0, .row 1 [] 0] =
      rE fns fa_spec_PairsOf 0 ks [(8, .own 1 m.accept.length 0 m.accept.length)] [.row 6 [v.i] 0, .row 1 ((prL m v).map Enc.pv) m.accept.length] := by
  obtain ⟨n1, n5, -, -⟩ := okCh_n hok
  have s0 := ev_spec_l03List (pow32 n5 (hv.p 0))
  have s1 := ev_spec_l03List (pow32 n5 (hv.p 1))
  have s2 := ev_spec_l03List (pow32 n5 (hv.p 2))
  have s3 := ev_spec_l03List (pow32 n5 (hv.p 3))
  have s4 := ev_spec_l03List (pow32 n5 (hv.p 4))
  simp at s0 s1 s2 s3 s4
  have hn : m.accept.length = 1 ∨ m.accept.length = 2 ∨ m.accept.length = 3 ∨ m.accept.length = 4 ∨ m.accept.length = 5 := by omega
  unfold prL
  simp only [Vw.i]
  rcases hn with hn | hn | hn | hn | hn <;> rw [hn]
  all_goals
    rw [l_spec_PairsOf_0]
    simp [lb_spec_PairsOf_0, hn, s0, s1, s2, s3, s4, wk1, wk2, wk3, wk4, wk5, setCells, List.range_succ]
    repeat (rw [l_spec_PairsOf_0]; simp [lb_spec_PairsOf_0, hn, s0, s1, s2, s3, s4, wk1, wk2, wk3, wk4, wk5, setCells, List.range_succ])
set_option maxHeartbeats 16000000 in
theorem spC_PairsOf (m : GChoices) (hz : Siz.size m ≤ 1048576) (w : ByteArray) (hw : w.size ≤ 1048576) : ∃ q, ev fns i_spec_PairsOf [m.v, str w] [] = some (.tup [q, i64 (prA m w).2], []) ∧ q.bel 0 = true ∧ PV.ty (Own.sh (List (List Int))) q = Enc.pv (prA m w).1 := by
  have h1 := ev_spec_l03Given m hz w hw
  have h2 := ev_spec_l01Matched w hw
  unfold prA
  by_cases c1 : okCh m = true ∧ okWord w = true
  · rw [if_pos c1] at h1
    rw [if_pos c1]
    cases c2 : isM w
    · rw [c2] at h2
      refine ⟨.list 1 [] true, go_spec_PairsOf (by simp) ?_, rfl, rfl⟩
      simp at h1 h2
      simp [ac_spec_PairsOf, h1, h2]
      done
    · rw [c2] at h2
      have hv := knK_ok c1.1 w
      have h3 := ev_spec_l03Run c1.1 hz w (okWord_symK c1.2) (by have := okWord_leK c1.2; omega)
      have lo := lo_prS c1.1 hv
      have n5 := (okCh_n c1.1).2.1
      have hl := prL_len m (knK m w)
      rw [if_pos rfl]
      simp only
      generalize prL m (knK m w) = L at *
      refine ⟨lst 1 L, go_spec_PairsOf (by simp) ?_, by simp, by show PV.ty (.lst 1 (.lst 1 .any)) (lst 1 L) = lst 1 L; simp⟩
      have b2 : m.accept.length ≤ 140737488355328 := by omega
      have et : (L.map Enc.pv).take m.accept.length = L.map Enc.pv := List.take_of_length_le (by simp [hl])
      simp only [Vw.i] at lo
      simp [Vw.i] at h1 h2 h3
      simp at lo
      simp [ac_spec_PairsOf, h1, h2, h3, lo, b2, hl, et, dfr, mapO]
      done
  · rw [if_neg c1] at h1
    rw [if_neg c1]
    refine ⟨.list 1 [] true, go_spec_PairsOf (by simp) ?_, rfl, rfl⟩
    simp at h1
    simp [ac_spec_PairsOf, h1]
theorem leC_PairsOf (m : GChoices) (hz : Siz.size m ≤ 1048576) (w : ByteArray) (hw : w.size ≤ 1048576) : Siz.size (prA m w).1 ≤ 1048576 := by
  unfold prA
  split
  · rename_i c1
    split
    · have n5 := (okCh_n c1.1).2.1
      have hl := prL_len m (knK m w)
      have hr := prL_row m (knK m w)
      simp only
      generalize prL m (knK m w) = L at *
      have key : ∀ L : List (List Int), (∀ l ∈ L, l.length ≤ 6) → Siz.sum L ≤ 6 * L.length := by
        intro L
        induction L with
        | nil => intro _; exact Nat.le_refl _
        | cons x L ih =>
          intro h
          show Siz.size x + Siz.sum L ≤ _
          have h1 := h x (by simp)
          have h2 := ih fun l hl => h l (by simp [hl])
          rw [Siz.size_flat_int, List.length_cons]; omega
      have := key L hr
      rw [Siz.size_list]; omega
    · simp [Siz.size_list, Siz.sum]
  · simp [Siz.size_list, Siz.sum]
end Go.Proofs.YtipmgemnjcjobaaGreat
