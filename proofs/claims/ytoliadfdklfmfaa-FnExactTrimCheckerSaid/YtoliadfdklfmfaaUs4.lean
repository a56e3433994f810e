/- The states to which moves lead: the reference's search as a whole, and both contracts. -/
import Derived.Test.YtoliadfdklfmfaaUs2
import Derived.Test.YtoliadfdklfmfaaLwC
set_option linter.unusedVariables false
set_option linter.unusedSimpArgs false
set_option maxRecDepth 100000
namespace Go.Proofs.Ytoliadfdklfmfaa
open Aw
/-! ### A number put among others -/
/-- A number put in its place. -/
def insL (x : Int) : List Int → List Int
  | [] => [x]
  | y :: l => if x ≤ y then (if x < y then x :: y :: l else y :: l) else y :: insL x l
theorem insL_mem (x : Int) : ∀ (l : List Int) (z : Int), z ∈ insL x l ↔ z = x ∨ z ∈ l
  | [], z => by simp [insL]
  | y :: l, z => by
    unfold insL
    by_cases h : x ≤ y
    · rw [if_pos h]
      by_cases h2 : x < y
      · rw [if_pos h2]; simp
      · rw [if_neg h2]
        have : x = y := by omega
        subst this; simp
    · rw [if_neg h, List.mem_cons, insL_mem x l z, List.mem_cons]
      constructor
      · rintro (h | h | h)
        · exact .inr (.inl h)
        · exact .inl h
        · exact .inr (.inr h)
      · rintro (h | h | h)
        · exact .inr (.inl h)
        · exact .inl h
        · exact .inr (.inr h)
theorem insL_asc (x : Int) : ∀ {l : List Int}, l.Pairwise (· < ·) → (insL x l).Pairwise (· < ·)
  | [], _ => by simp [insL]
  | y :: l, h => by
    unfold insL
    rw [List.pairwise_cons] at h
    by_cases c : x ≤ y
    · rw [if_pos c]
      by_cases c2 : x < y
      · rw [if_pos c2, List.pairwise_cons, List.pairwise_cons]
        refine ⟨fun z hz => ?_, h⟩
        rcases List.mem_cons.1 hz with rfl | hz
        · exact c2
        · have := h.1 z hz; omega
      · rw [if_neg c2, List.pairwise_cons]; exact h
    · rw [if_neg c, List.pairwise_cons]
      refine ⟨fun z hz => ?_, insL_asc x h.2⟩
      rcases (insL_mem x l z).1 hz with rfl | hz
      · omega
      · exact h.1 z hz
theorem insL_len (x : Int) : ∀ {l : List Int}, x ∉ l → (insL x l).length = l.length + 1
  | [], _ => rfl
  | y :: l, h => by
    unfold insL
    rw [List.mem_cons, not_or] at h
    by_cases c : x ≤ y
    · rw [if_pos c, if_pos (by have := h.1; omega)]; rfl
    · rw [if_neg c, List.length_cons, insL_len x h.2]; rfl
theorem insL_le (x : Int) : ∀ l : List Int, (insL x l).length ≤ l.length + 1
  | [] => by simp [insL]
  | y :: l => by
    unfold insL
    split
    · split
      · simp
      · simp
    · have := insL_le x l; simp; omega
/-- The same, as the reference does it. -/
def puF (x : Int) (p : List Int × Bool) (y : Int) : List Int × Bool := if p.2 = false ∧ x ≤ y then ((if x < y then p.1 ++ [x] else p.1) ++ [y], true) else (p.1 ++ [y], p.2)
def puE (x : Int) (p : List Int × Bool) : List Int := if p.2 = true then p.1 else p.1 ++ [x]
theorem puF_done (x : Int) : ∀ (l a : List Int), l.foldl (puF x) (a, true) = (a ++ l, true)
  | [], a => by simp
  | y :: l, a => by rw [List.foldl_cons]; simp [puF, puF_done x l]
theorem puF_ins (x : Int) : ∀ (l a : List Int), puE x (l.foldl (puF x) (a, false)) = a ++ insL x l
  | [], a => by simp [puE, insL]
  | y :: l, a => by
    rw [List.foldl_cons]
    by_cases h : x ≤ y
    · have e : puF x (a, false) y = ((if x < y then a ++ [x] else a) ++ [y], true) := by unfold puF; rw [if_pos ⟨rfl, h⟩]
      rw [e, puF_done]
      unfold puE insL
      rw [if_pos rfl, if_pos h]
      by_cases c : x < y
      · simp [c]
      · simp [c]
    · have e : puF x (a, false) y = (a ++ [y], false) := by unfold puF; rw [if_neg (fun hh => h hh.2)]
      rw [e, puF_ins x l]
      conv => rhs; unfold insL
      rw [if_neg h]; simp
theorem puF_len (x : Int) (p : List Int × Bool) (y : Int) : (puF x p y).1.length ≤ p.1.length + 2 := by
  unfold puF; split
  · split <;> simp
  · simp
theorem ev_spec_l00Has (l : List Int) (x : Int) (ex : Bool) (hl : l.length ≤ 1000) : ev fns i_spec_l00Has [.list 1 (l.map Enc.pv) ex, i64 x] [] = some (bol (l.contains x), []) := by
  refine go_spec_l00Has (by simp) ?_
  have lo := loop_forall (F := fun k => rE fns fa_spec_l00Has 0 [.code lo_spec_l00Has_0, .inBlock 0, .code (.ghost (.kill [0, 1, 5]) (.seq (.reg [⟨(some 4), .op (.mv (.const (Value.bool false))), none⟩]) .ret))] [(5, i64 (k : Nat)), (1, i64 x), (0, .list 1 (l.map Enc.pv) ex)] [])
    (a := l) (p := fun y => decide (y ≠ x)) (e := some (bol false, [])) (r := some (bol true, []))
    (fun k h => by
      have hw := wrap_i64 (n := k + 1) (by omega)
      have hlt : (k : Int) < l.length := by omega
      rw [l_spec_l00Has_0]
      refine ⟨fun hp => ?_, fun hp => ?_⟩
      · simp at hp
        simp [lb_spec_l00Has_0, h, hlt, hp, hw]
      · simp at hp
        simp [lb_spec_l00Has_0, h, hlt, hp])
    (by
      rw [l_spec_l00Has_0]
      simp [lb_spec_l00Has_0])
  have e : (l.all fun y => decide (y ≠ x)) = !l.contains x := by
    rw [Bool.eq_iff_iff]; simp
    constructor
    · intro h hm; exact h x hm rfl
    · intro h y hy e; exact h (e ▸ hy)
  rw [e] at lo
  simp at lo
  simp [ac_spec_l00Has, lo]
  cases hc : l.contains x <;> simp_all
set_option maxHeartbeats 4000000 in
theorem ev_spec_l00Put (l : List Int) (x : Int) (ex : Bool) (hl : l.length ≤ 1000) : ev fns i_spec_l00Put [.list 1 (l.map Enc.pv) ex, i64 x] [] = some (lst 1 (insL x l), []) := by
  refine go_spec_l00Put (by simp) ?_
  have lo : ∀ ks, rE fns fa_spec_l00Put 0 (.code lo_spec_l00Put_0 :: .inBlock 0 :: ks) [(7, i64 0), (6, bol false), (5, .own 0 0 0 0), (1, i64 x), (0, .list 1 (l.map Enc.pv) ex)] [.row 1 [] 0] =
      rE fns fa_spec_l00Put 0 ks [(6, bol (l.foldl (puF x) ([], false)).2), (5, .own 0 0 0 (l.foldl (puF x) ([], false)).1.length), (1, i64 x)] [.row 1 ((l.foldl (puF x) ([], false)).1.map Enc.pv) 0] := by
    intro ks
    have lo := loop_fold (F := fun k (s : List Int × Bool) => rE fns fa_spec_l00Put 0 (.code lo_spec_l00Put_0 :: .inBlock 0 :: ks) [(7, i64 (k : Nat)), (6, bol s.2), (5, .own 0 0 0 s.1.length), (1, i64 x), (0, .list 1 (l.map Enc.pv) ex)] [.row 1 (s.1.map Enc.pv) 0]) (ls := l) (f := puF x) (fun k s => s.1.length ≤ 2 * k)
      (fun k s hk hI => by
        refine ⟨?_, by have := puF_len x s l[k]; omega⟩
        obtain ⟨a, d⟩ := s
        simp only at hI
        have hw := wrap_i64 (n := k + 1) (by omega)
        have hlt : (k : Int) < l.length := by omega
        have b1 : (a.length + 1) * 8 ≤ 140737488355328 ∧ (a.length + 1 + 1) * 8 ≤ 140737488355328 := by omega
        rw [l_spec_l00Put_0]
        unfold puF
        cases d with
        | true => simp [lb_spec_l00Put_0, hk, hlt, hw, b1, nvRow, PV.bels]
        | false =>
          by_cases c : x ≤ l[k]
          · by_cases c2 : x < l[k]
            · simp [lb_spec_l00Put_0, hk, hlt, hw, b1, c, c2, nvRow, PV.bels]
            · simp [lb_spec_l00Put_0, hk, hlt, hw, b1, c, c2, nvRow, PV.bels]
          · simp [lb_spec_l00Put_0, hk, hlt, hw, b1, c, nvRow, PV.bels])
      (s := ([], false)) (by simp)
    refine Eq.trans ?_ (lo.1.trans ?_)
    · rfl
    · rw [l_spec_l00Put_0]
      simp [lb_spec_l00Put_0]
  have hi := puF_ins x l []
  have hle := insL_le x l
  generalize l.foldl (puF x) ([], false) = p at *
  obtain ⟨a, d⟩ := p
  simp [puE] at hi
  simp at lo
  cases d with
  | true =>
    simp at hi
    subst hi
    simp [ac_spec_l00Put, lo]
    omega
  | false =>
    simp at hi
    have b1 : (a.length + 1) * 8 ≤ 140737488355328 := by rw [← hi] at hle; simp at hle; omega
    simp [ac_spec_l00Put, lo, b1, ← hi, nvRow, PV.bels]
    omega
/-- What the reference takes a state's moves to be. -/
abbrev nxS (p0 p1 : GPush) (q0 q1 : List Int) (i0 i1 : Int) : List Int := i0 :: i1 :: p0.to :: (q0 ++ p1.to :: q1)
noncomputable abbrev rU (ks : List KI) (l : Fr) (σ : List AObj) : Option (Fr × List AObj) := run fns fa_spec_l02Used.nt 0 ks l σ
theorem u_0 {N : Nat} {ks : List KI} {l : Fr} {σ : List AObj} : run fns N 0 (.code lo_spec_l02Used_0 :: ks) l σ = run fns N 0 (.code lb_spec_l02Used_0 :: .code lo_spec_l02Used_0 :: ks) l σ := run_loop
theorem u_1 {N : Nat} {ks : List KI} {l : Fr} {σ : List AObj} : run fns N 0 (.code lo_spec_l02Used_1 :: ks) l σ = run fns N 0 (.code lb_spec_l02Used_1 :: .code lo_spec_l02Used_1 :: ks) l σ := run_loop
theorem u_2 {N : Nat} {ks : List KI} {l : Fr} {σ : List AObj} : run fns N 0 (.code lo_spec_l02Used_2 :: ks) l σ = run fns N 0 (.code lb_spec_l02Used_2 :: .code lo_spec_l02Used_2 :: ks) l σ := run_loop
set_option maxHeartbeats 4000000 in
theorem us_head (c : GChecker) (pre rest : List Int) (s : Nat) (p0 p1 : GPush) (q0 q1 : List Int) (i0 i1 : Int) (h1 : s < c.call.length) (h2 : s < c.ret.length) (h3 : s < c.inner.length) (e1 : c.call[s] = [p0, p1]) (e2 : c.ret[s] = [q0, q1]) (e3 : c.inner[s] = [i0, i1]) (l0 : q0.length ≤ 1000) (l1 : q1.length ≤ 1000) (o : List Int) (ex : Bool) (ks : List KI) :
    rU (.code lo_spec_l02Used_2 :: ks) [(4, .own 0 0 pre.length (rest.length + 1)), (3, .list 1 (o.map Enc.pv) ex), (0, CkP c)] [.row 1 (pre.map Enc.pv ++ i64 s :: rest.map Enc.pv) 0] =
      rU (.code lo_spec_l02Used_1 :: .inBlock 4 :: .gh .nv :: .inBlock 1 :: .gh .nv :: .code lo_spec_l02Used_2 :: ks) [(8, i64 0), (6, .own 1 0 0 (nxS p0 p1 q0 q1 i0 i1).length), (4, .own 0 0 (pre.length + 1) rest.length), (3, .list 1 (o.map Enc.pv) ex), (0, CkP c)] [.row 1 ((pre ++ (s : Int) :: rest).map Enc.pv) 0, .row 1 ((nxS p0 p1 q0 q1 i0 i1).map Enc.pv) 0] := by
  have ht : List.take (pre.length + 1 + rest.length) (pre.map Enc.pv ++ i64 s :: rest.map Enc.pv) = pre.map Enc.pv ++ i64 s :: rest.map Enc.pv := List.take_of_length_le (by simp; omega)
  have hb : ∀ n, PV.bels n (pre.map Enc.pv ++ i64 s :: rest.map Enc.pv) = true := fun n => by rw [bels_append]; simp [PV.bels]
  have hO := ev_spec_l00Own [i0, i1] (by simp)
  have w1 : IntKind.i64.wrap 1 = 1 := by decide
  have w2 : IntKind.i64.wrap 2 = 2 := by decide
  have b1 : (3 + q0.length) * 8 ≤ 140737488355328 := by omega
  have k1 : ∀ x y z : PV, List.take (3 + q0.length) (x :: y :: z :: q0.map Enc.pv) = x :: y :: z :: q0.map Enc.pv := fun x y z => List.take_of_length_le (by simp; omega)
  have b2 : (3 + q0.length + 1) * 8 ≤ 140737488355328 ∧ (3 + q0.length + 1 + q1.length) * 8 ≤ 140737488355328 := by omega
  have b3 : 3 + q0.length = q0.length + 1 + 1 + 1 := by omega
  have b4 : 3 + q0.length + 1 = q0.length + 1 + 1 + 1 + 1 := by omega
  have k2 : ∀ x y z u : PV, List.take (3 + q0.length + 1 + q1.length) (x :: y :: z :: (q0.map Enc.pv ++ u :: q1.map Enc.pv)) = x :: y :: z :: (q0.map Enc.pv ++ u :: q1.map Enc.pv) := fun x y z u => List.take_of_length_le (by simp; omega)
  have k3 : 3 + q0.length + 1 + q1.length = q0.length + (q1.length + 1) + 1 + 1 + 1 := by omega
  unfold rU
  rw [u_2]
  simp at hO ht hb
  simp [run_inBlock, run_ins_nil, run_dins_nil, run_skip, run_seq, run_block, run_reg, run_draw, run_exit, run_ghost, run_post, run_gh, run_cond, run_ins, run_dins, lb_spec_l02Used_2, h1, h2, h3, e1, e2, e3, hO, nvRow, ht, hb]
  rw [u_0]
  simp [run_inBlock, run_ins_nil, run_dins_nil, run_skip, run_seq, run_block, run_reg, run_draw, run_exit, run_ghost, run_post, run_gh, run_cond, run_ins, run_dins, lb_spec_l02Used_0, h1, h2, h3, e1, e2, e3, nvRow, ht, hb, w1, w2, b1, k1]
  rw [u_0]
  simp [run_inBlock, run_ins_nil, run_dins_nil, run_skip, run_seq, run_block, run_reg, run_draw, run_exit, run_ghost, run_post, run_gh, run_cond, run_ins, run_dins, lb_spec_l02Used_0, h1, h2, h3, e1, e2, e3, nvRow, ht, hb, w1, w2, b1, k1, b2, eq_true b3, eq_true b4, k2]
  rw [u_0]
  simp [run_inBlock, run_ins_nil, run_dins_nil, run_skip, run_seq, run_block, run_reg, run_draw, run_exit, run_ghost, run_post, run_gh, run_cond, run_ins, run_dins, lb_spec_l02Used_0, nvRow, ht, hb, k2, k3]
/-- What one of the moves makes of the states found and of those to do. -/
def tdF (s : List Int × Bool × List Int) (t : Int) : List Int × Bool × List Int := if t ∈ s.1 then s else (insL t s.1, false, s.2.2 ++ [t])
set_option maxHeartbeats 8000000 in
theorem us_1 (c : GChecker) (R : List Int) (hR : R.length ≤ 3000) (ks : List KI) (r : Fr × List AObj) (F : List Int × Bool × List Int) (s0 : List Int × Bool × List Int) (hF : F = R.foldl tdF s0) (hon : ∀ k, k ≤ R.length → ((R.take k).foldl tdF s0).1.length ≤ 100 ∧ ((R.take k).foldl tdF s0).2.2.length ≤ 100)
    (hend : ∀ P : List Int, rU ks [(4, .own 0 0 P.length F.2.2.length), (3, .list 1 (F.1.map Enc.pv) F.2.1), (0, CkP c)] [.row 1 ((P ++ F.2.2).map Enc.pv) 0] = some r) :
    ∀ (m k : Nat), k + m = R.length → ∀ (P : List Int) (s : List Int × Bool × List Int), s = (R.take k).foldl tdF s0 →
    rU (.code lo_spec_l02Used_1 :: .inBlock 4 :: .gh .nv :: ks) [(8, i64 (k : Nat)), (6, .own 1 0 0 R.length), (4, .own 0 0 P.length s.2.2.length), (3, .list 1 (s.1.map Enc.pv) s.2.1), (0, CkP c)] [.row 1 ((P ++ s.2.2).map Enc.pv) 0, .row 1 (R.map Enc.pv) 0] = some r := by
  intro m
  induction m with
  | zero =>
    intro k hk P s hs
    have hk : k = R.length := by omega
    subst hk
    rw [List.take_length, ← hF] at hs
    subst hs
    have he := hend P
    obtain ⟨a, x, b⟩ := s
    have t2 : List.take (P.length + b.length) (P.map Enc.pv ++ b.map Enc.pv) = P.map Enc.pv ++ b.map Enc.pv := List.take_of_length_le (by simp)
    have t3 : ∀ n, PV.bels n (P.map Enc.pv ++ b.map Enc.pv) = true := fun n => by rw [bels_append]; simp
    unfold rU at he ⊢
    rw [u_1]
    simp at t2 t3 he
    simp [run_inBlock, run_ins_nil, run_dins_nil, run_skip, run_seq, run_block, run_reg, run_draw, run_exit, run_ghost, run_post, run_gh, run_cond, run_ins, run_dins, lb_spec_l02Used_1, nvRow, t2, t3, he]
  | succ m ih =>
    intro k hkm P s hI
    have hk : k < R.length := by omega
    have hh := hon k (by omega)
    rw [← hI] at hh
    have hI1 : tdF s R[k] = (R.take (k + 1)).foldl tdF s0 := by rw [hI, List.take_succ_eq_append_getElem hk, List.foldl_append]; rfl
    obtain ⟨a, x, b⟩ := s
    simp only at hh
    have hw := wrap_i64 (n := k + 1) (by omega)
    have hlt : (k : Int) < R.length := by omega
    have b1 : (b.length + 1) * 8 ≤ 140737488355328 := by omega
    have hc := ev_spec_l00Has a R[k] x (by omega)
    have hp := ev_spec_l00Put a R[k] x (by omega)
    have t1 : List.take (P.length + (b.length + 1)) (P.map Enc.pv ++ (b.map Enc.pv ++ [i64 R[k]])) = P.map Enc.pv ++ (b.map Enc.pv ++ [i64 R[k]]) := List.take_of_length_le (by simp)
    have t2 : List.take (P.length + b.length) (P.map Enc.pv ++ b.map Enc.pv) = P.map Enc.pv ++ b.map Enc.pv := List.take_of_length_le (by simp)
    have t3 : ∀ n, PV.bels n (P.map Enc.pv ++ b.map Enc.pv) = true := fun n => by rw [bels_append]; simp
    have t4 : ∀ n, PV.bels n (P.map Enc.pv ++ (b.map Enc.pv ++ [i64 R[k]])) = true := fun n => by rw [bels_append, bels_append]; simp [PV.bels]
    have t5 : ∀ n, PV.bels n (b.map Enc.pv ++ [i64 R[k]]) = true := fun n => by rw [bels_append]; simp [PV.bels]
    unfold rU at ih ⊢
    rw [u_1]
    by_cases hm : R[k] ∈ a
    · have hc1 : a.contains R[k] = true := by simpa using hm
      rw [hc1] at hc
      have e : tdF (a, x, b) R[k] = (a, x, b) := by unfold tdF; rw [if_pos hm]
      rw [e] at hI1
      have h1 := ih (k + 1) (by omega) P _ hI1
      simp at hc t2 t3 h1
      simp [run_inBlock, run_ins_nil, run_dins_nil, run_skip, run_seq, run_block, run_reg, run_draw, run_exit, run_ghost, run_post, run_gh, run_cond, run_ins, run_dins, lb_spec_l02Used_1, hk, hlt, hw, hc, nvRow, t2, t3, h1]
    · have hc1 : a.contains R[k] = false := by simpa using hm
      rw [hc1] at hc
      have e : tdF (a, x, b) R[k] = (insL R[k] a, false, b ++ [R[k]]) := by unfold tdF; rw [if_neg hm]
      rw [e] at hI1
      have h1 := ih (k + 1) (by omega) P _ hI1
      have h2 := ih (k + 1) (by omega) [] _ hI1
      simp at hc hp t1 t2 t3 t4 t5 h1 h2
      cases P with
      | nil =>
        simp [run_inBlock, run_ins_nil, run_dins_nil, run_skip, run_seq, run_block, run_reg, run_draw, run_exit, run_ghost, run_post, run_gh, run_cond, run_ins, run_dins, lb_spec_l02Used_1, hk, hlt, hw, hc, hp, b1, nvRow, t5, h2]
      | cons y P =>
        simp at t1 t2 t3 t4 h1
        have t6 : List.take (P.length + 1 + (b.length + 1)) (i64 y :: (P.map Enc.pv ++ (b.map Enc.pv ++ [i64 R[k]]))) = i64 y :: (P.map Enc.pv ++ (b.map Enc.pv ++ [i64 R[k]])) := List.take_of_length_le (by simp; omega)
        have t7 : P.length + 1 + b.length = P.length + b.length + 1 := by omega
        simp at t6
        simp [run_inBlock, run_ins_nil, run_dins_nil, run_skip, run_seq, run_block, run_reg, run_draw, run_exit, run_ghost, run_post, run_gh, run_cond, run_ins, run_dins, ai2, lb_spec_l02Used_1, hk, hlt, hw, hc, hp, b1, nvRow, t1, t2, t3, t4, t5, t6, eq_true t7, h1, h2]
end Go.Proofs.Ytoliadfdklfmfaa

set_option linter.unusedVariables false
set_option linter.unusedSimpArgs false
set_option maxRecDepth 100000
namespace Go.Proofs.Ytoliadfdklfmfaa
open Aw
/-- From one state of the reference's search to another one. -/
structure TdI (s0 s : List Int × Bool × List Int) : Prop where
  asc : s.1.Pairwise (· < ·)
  a : ∀ x ∈ s0.1, x ∈ s.1
  b : ∀ x ∈ s0.2.2, x ∈ s.2.2
  n : ∀ x ∈ s.1, x ∈ s0.1 ∨ x ∈ s.2.2
  t : ∀ x ∈ s.2.2, x ∈ s0.2.2 ∨ x ∈ s.1
  l : s.1.length + s0.2.2.length = s0.1.length + s.2.2.length
theorem TdI.refl {s : List Int × Bool × List Int} (h : s.1.Pairwise (· < ·)) : TdI s s := ⟨h, fun _ h => h, fun _ h => h, fun _ h => .inl h, fun _ h => .inl h, by omega⟩
theorem TdI.step {s0 s : List Int × Bool × List Int} (h : TdI s0 s) (t : Int) : TdI s0 (tdF s t) := by
  unfold tdF
  split
  · exact h
  · rename_i hn
    refine ⟨insL_asc t h.asc, fun x hx => (insL_mem t _ x).2 (.inr (h.a x hx)), fun x hx => List.mem_append_left _ (h.b x hx), fun x hx => ?_, fun x hx => ?_, ?_⟩
    · rcases (insL_mem t _ x).1 hx with rfl | hx
      · exact .inr (by simp)
      · rcases h.n x hx with h1 | h1
        · exact .inl h1
        · exact .inr (List.mem_append_left _ h1)
    · rcases List.mem_append.1 hx with hx | hx
      · rcases h.t x hx with h1 | h1
        · exact .inl h1
        · exact .inr ((insL_mem t _ x).2 (.inr h1))
      · simp at hx; subst hx; exact .inr ((insL_mem x _ x).2 (.inl rfl))
    · have := h.l; rw [insL_len t hn]; simp; omega
theorem TdI.fold {s0 : List Int × Bool × List Int} : ∀ (R : List Int) {s : List Int × Bool × List Int}, TdI s0 s → TdI s0 (R.foldl tdF s)
  | [], _, h => h
  | t :: R, _, h => TdI.fold R (h.step t)
theorem tdF_mem : ∀ (R : List Int) (s : List Int × Bool × List Int) (x : Int), x ∈ (R.foldl tdF s).1 ↔ x ∈ s.1 ∨ x ∈ R
  | [], s, x => by simp
  | t :: R, s, x => by
    rw [List.foldl_cons, tdF_mem R, List.mem_cons]
    unfold tdF
    split
    · rename_i h
      constructor
      · rintro (h1 | h1)
        · exact .inl h1
        · exact .inr (.inr h1)
      · rintro (h1 | rfl | h1)
        · exact .inl h1
        · exact .inl h
        · exact .inr h1
    · rw [show (insL t s.1, false, s.2.2 ++ [t]).1 = insL t s.1 from rfl, insL_mem]
      constructor
      · rintro ((h1 | h1) | h1)
        · exact .inr (.inl h1)
        · exact .inl h1
        · exact .inr (.inr h1)
      · rintro (h1 | h1 | h1)
        · exact .inl (.inr h1)
        · exact .inl (.inl h1)
        · exact .inr h1
/-- What is known in the reference's search. -/
structure UrI (c : GChecker) (o T : List Int) : Prop where
  st : c.start ∈ o
  asc : o.Pairwise (· < ·)
  rc : ∀ x ∈ o, Rch c x
  ti : ∀ x ∈ T, x ∈ o
  cl : ∀ x ∈ o, x ∈ T ∨ ∀ t ∈ nxC c x.toNat, t ∈ o
  tl : T.length ≤ o.length
theorem UrI.start (c : GChecker) : UrI c [c.start] [c.start] := ⟨by simp, by simp, by simp; exact .start, by simp, by simp, by simp⟩
theorem asc_nodup {l : List Int} (h : l.Pairwise (· < ·)) : l.Nodup := h.imp fun h e => by omega
theorem UrI.len {c : GChecker} (hok : okCk c = true) {o T : List Int} (h : UrI c o T) : o.length ≤ c.accept.length := nodup_len (asc_nodup h.asc) fun x hx => rch_in hok (h.rc x hx)
theorem UrI.next {c : GChecker} {o T : List Int} {s : Int} (h : UrI c o (s :: T)) {R : List Int} (hR : ∀ x, x ∈ R ↔ x ∈ nxC c s.toNat) (ex : Bool) : UrI c (R.foldl tdF (o, ex, T)).1 (R.foldl tdF (o, ex, T)).2.2 := by
  have hf := TdI.fold R (TdI.refl (s := (o, ex, T)) h.asc)
  have hm := tdF_mem R (o, ex, T)
  generalize R.foldl tdF (o, ex, T) = f at *
  have hs : s ∈ o := h.ti s (by simp)
  have hti : ∀ x ∈ T, x ∈ f.1 := fun x hx => hf.a x (h.ti x (by simp [hx]))
  refine ⟨hf.a _ h.st, hf.asc, fun x hx => ?_, fun x hx => ?_, fun x hx => ?_, ?_⟩
  · rcases (hm x).1 hx with hx | hx
    · exact h.rc x hx
    · exact .step (h.rc s hs) ((hR x).1 hx)
  · rcases hf.t x hx with hx | hx
    · exact hti x hx
    · exact hx
  · rcases hf.n x hx with h1 | h1
    · rcases h.cl x h1 with h2 | h2
      · rcases List.mem_cons.1 h2 with rfl | h2
        · exact .inr fun t ht => (hm t).2 (.inr ((hR t).2 ht))
        · exact .inl (hf.b x h2)
      · exact .inr fun t ht => hf.a t (h2 t ht)
    · exact .inl h1
  · have := hf.l; have := h.tl; simp at *; omega
theorem UrI.done {c : GChecker} (hok : okCk c = true) {o : List Int} (h : UrI c o []) : o = usL c :=
  usL_eq hok h.asc fun x => rch_iff h.st h.rc (fun x hx t ht => by
    rcases h.cl x hx with h1 | h1
    · simp at h1
    · exact h1 t ht) x
/-- Has nothing been added yet? -/
def exU (o : List Int) : Bool := decide (o.length = 1)
theorem tdF_ex : ∀ (R : List Int) {s : List Int × Bool × List Int}, s.2.1 = exU s.1 → s.1 ≠ [] → (R.foldl tdF s).2.1 = exU (R.foldl tdF s).1 ∧ (R.foldl tdF s).1 ≠ []
  | [], _, h, k => ⟨h, k⟩
  | t :: R, s, h, k => by
    rw [List.foldl_cons]
    have : (tdF s t).2.1 = exU (tdF s t).1 ∧ (tdF s t).1 ≠ [] := by
      unfold tdF
      split
      · exact ⟨h, k⟩
      · rename_i hn
        have hl := insL_len t hn
        have hp := List.length_pos_iff.2 k
        refine ⟨?_, fun e => ?_⟩
        · show false = exU (insL t s.1)
          unfold exU
          simp; omega
        · have e : insL t s.1 = [] := e
          rw [e] at hl; simp at hl
    exact tdF_ex R this.1 this.2
set_option maxHeartbeats 4000000 in
theorem us_2 (c : GChecker) (hok : okCk c = true) (ks : List KI) (r : Fr × List AObj) (hend : ∀ (P : List Int), rU ks [(3, .list 1 ((usL c).map Enc.pv) (exU (usL c)))] [.row 1 (P.map Enc.pv) 0] = some r) :
    ∀ (m : Nat) (P o T : List Int) (ex : Bool), (c.accept.length - o.length) + T.length ≤ m → UrI c o T → ex = exU o →
    rU (.code lo_spec_l02Used_2 :: .inBlock 0 :: ks) [(4, .own 0 0 P.length T.length), (3, .list 1 (o.map Enc.pv) ex), (0, CkP c)] [.row 1 ((P ++ T).map Enc.pv) 0] = some r := by
  have g1 := (okCk_len hok).1
  have g2 := (okCk_len hok).2.1
  simp only [inR, Bool.and_eq_true, decide_eq_true_eq] at g1 g2
  have nil : ∀ (P o : List Int) (ex : Bool), UrI c o [] → ex = exU o → rU (.code lo_spec_l02Used_2 :: .inBlock 0 :: ks) [(4, .own 0 0 P.length 0), (3, .list 1 (o.map Enc.pv) ex), (0, CkP c)] [.row 1 (P.map Enc.pv) 0] = some r := by
    intro P o ex hI hx
    have he := hend P
    rw [← hI.done hok, ← hx] at he
    unfold rU at he ⊢
    rw [u_2]
    simp at he
    simp [run_inBlock, run_ins_nil, run_dins_nil, run_skip, run_seq, run_block, run_reg, run_draw, run_exit, run_ghost, run_post, run_gh, run_cond, run_ins, run_dins, lb_spec_l02Used_2, he]
  intro m
  induction m with
  | zero =>
    intro P o T ex hm hI hx
    have hT : T = [] := List.eq_nil_of_length_eq_zero (by omega)
    subst hT
    simpa using nil P o ex hI hx
  | succ m ih =>
    intro P o T ex hm hI hx
    cases T with
    | nil => simpa using nil P o ex hI hx
    | cons s T =>
      have hl := hI.len hok
      have hs := rch_in hok (hI.rc s (hI.ti s (by simp)))
      obtain ⟨n, h1, h2, h3, h4, p0, p1, q0, q1, i0, i1, es, e1, e2, e3, k1, k2, k3, k4, k5, k6⟩ := ck_at hok (s := s) (by simp only [inR, Bool.and_eq_true, decide_eq_true_eq]; omega)
      subst es
      simp only [okSts, Bool.and_eq_true, decide_eq_true_eq] at k3 k4
      have hn := nxC_row h1 h2 h3 e1 e2 e3
      have hR : ∀ x, x ∈ nxS p0 p1 q0 q1 i0 i1 ↔ x ∈ nxC c (n : Int).toNat := fun x => by
        rw [Int.toNat_natCast, hn]
        simp only [nxS, List.mem_cons, List.mem_append, List.not_mem_nil, or_false]
        constructor
        · rintro (h | h | h | h | h | h) <;> simp [h]
        · rintro (h | h | (h | h) | h | h) <;> simp [h]
      have hI1 := hI.next hR ex
      have hf0 : ∀ k, TdI (o, ex, T) (((nxS p0 p1 q0 q1 i0 i1).take k).foldl tdF (o, ex, T)) := fun k => TdI.fold _ (TdI.refl (s := (o, ex, T)) hI.asc)
      have hln : ∀ k, (((nxS p0 p1 q0 q1 i0 i1).take k).foldl tdF (o, ex, T)).1.length ≤ c.accept.length := fun k => nodup_len (asc_nodup (hf0 k).asc) fun x hx => by
        rcases (tdF_mem _ _ x).1 hx with h | h
        · exact rch_in hok (hI.rc x h)
        · exact rch_in hok (.step (hI.rc _ (hI.ti _ (by simp))) ((hR x).1 (List.mem_of_mem_take h)))
      have htl := hI.tl
      simp only [List.length_cons] at htl
      have hon : ∀ k, k ≤ (nxS p0 p1 q0 q1 i0 i1).length → (((nxS p0 p1 q0 q1 i0 i1).take k).foldl tdF (o, ex, T)).1.length ≤ 100 ∧ (((nxS p0 p1 q0 q1 i0 i1).take k).foldl tdF (o, ex, T)).2.2.length ≤ 100 := fun k _ => by
        have a := hln k
        have b := (hf0 k).l
        simp only at b
        omega
      have hfl := (hf0 (nxS p0 p1 q0 q1 i0 i1).length).l
      rw [List.take_length] at hfl
      have hnl : (nxS p0 p1 q0 q1 i0 i1).length ≤ 3000 := by simp; omega
      have hlf := hln (nxS p0 p1 q0 q1 i0 i1).length
      rw [List.take_length] at hlf
      have hxx := (tdF_ex (nxS p0 p1 q0 q1 i0 i1) (s := (o, ex, T)) hx (fun e => by have := hI.st; rw [show o = [] from e] at this; simp at this)).1
      have h1' := us_1 c (nxS p0 p1 q0 q1 i0 i1) hnl (.inBlock 1 :: .gh .nv :: .code lo_spec_l02Used_2 :: .inBlock 0 :: ks) r _ (o, ex, T) rfl hon (fun P' => by
        have h2 := ih P' _ _ ((nxS p0 p1 q0 q1 i0 i1).foldl tdF (o, ex, T)).2.1 (by simp only [List.length_cons] at hm; simp only at hfl; omega) hI1 hxx
        generalize (nxS p0 p1 q0 q1 i0 i1).foldl tdF (o, ex, T) = F at *
        obtain ⟨a, x, b⟩ := F
        have t2 : List.take (P'.length + b.length) (P'.map Enc.pv ++ b.map Enc.pv) = P'.map Enc.pv ++ b.map Enc.pv := List.take_of_length_le (by simp)
        have t3 : ∀ n, PV.bels n (P'.map Enc.pv ++ b.map Enc.pv) = true := fun n => by rw [bels_append]; simp
        unfold rU at h2 ⊢
        simp at t2 t3 h2
        simp [run_inBlock, run_gh, nvRow, t2, t3, h2]) (nxS p0 p1 q0 q1 i0 i1).length 0 (by omega) (P ++ [(n : Int)]) (o, ex, T) rfl
      have hhead := us_head c P T n p0 p1 q0 q1 i0 i1 h1 h2 h3 e1 e2 e3 (by omega) (by omega) o ex (.inBlock 0 :: ks)
      have e0 : (P ++ (n : Int) :: T).map Enc.pv = P.map Enc.pv ++ i64 n :: T.map Enc.pv := by simp
      have e9 : P ++ [(n : Int)] ++ T = P ++ (n : Int) :: T := by simp
      rw [e9] at h1'
      rw [List.length_cons, e0, hhead]
      simpa using h1'
theorem ev_spec_l02Used (c : GChecker) (hok : okCk c = true) : ev fns i_spec_l02Used [CkP c] [] = some (.list 1 ((usL c).map Enc.pv) (exU (usL c)), []) := by
  refine go_spec_l02Used (by simp) ?_
  have g1 := (okCk_len hok).1
  simp only [inR, Bool.and_eq_true, decide_eq_true_eq] at g1
  have hl := usL_len c
  have hrun := us_2 c hok [.gh .nv, .code (.ghost (.kill [0, 4, 6, 8]) (.seq (.post (.reg [⟨(some 90), .op (.mv (.tmp 3)), none⟩, ⟨(some 2), .op (.mv (.tmp 90)), none⟩]) (.kill [3, 90])) .ret))] ([(2, .list 1 ((usL c).map Enc.pv) (exU (usL c)))], []) (fun P => by
    unfold rU
    simp [run_ret, run_inBlock, run_ins_nil, run_dins_nil, run_skip, run_seq, run_block, run_reg, run_draw, run_exit, run_ghost, run_post, run_gh, run_cond, run_ins, run_dins, nvRow]) _ [] [c.start] [c.start] true (Nat.le_refl _) (UrI.start c) rfl
  have hrE : rE fns fa_spec_l02Used 0 [.code lo_spec_l02Used_2, .inBlock 0, .gh .nv, .code (.ghost (.kill [0, 4, 6, 8]) (.seq (.post (.reg [⟨(some 90), .op (.mv (.tmp 3)), none⟩, ⟨(some 2), .op (.mv (.tmp 90)), none⟩]) (.kill [3, 90])) .ret))] [(4, .own 0 0 0 1), (3, .list 1 ([c.start].map Enc.pv) true), (0, CkP c)] [.row 1 ([c.start].map Enc.pv) 0] = some (.list 1 ((usL c).map Enc.pv) (exU (usL c)), []) := by
    unfold rE
    have hrun := hrun
    unfold rU at hrun
    simp only [List.length_nil, List.nil_append, List.length_cons, Nat.zero_add] at hrun
    rw [hrun]
    simp [fin, fin0]
  simp at hrE
  simp [ac_spec_l02Used, hrE]
/-- What UsedStates answers. -/
noncomputable def usA (c : GChecker) : List Int × Int := if okCk c = true then (usL c, 0) else ([], 1)
theorem leC_UsedStates (c : GChecker) (hz : Siz.size c ≤ 1048576) : Siz.size (usA c).1 ≤ 1048576 := by
  unfold usA
  split
  · rename_i h
    have g1 := (okCk_len h).1
    simp only [inR, Bool.and_eq_true, decide_eq_true_eq] at g1
    have := usL_len c
    rw [Siz.size_flat_int]; simp only; omega
  · simp [Siz.size_list, Siz.sum]
end Go.Proofs.Ytoliadfdklfmfaa
