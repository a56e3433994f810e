/- Algebras that are valid: the program's ValidAlgebra and the reference's. -/
import Derived.Test.YtegjfjckijmgcaaValidCk
import Derived.Test.YtegjfjckijmgcaaLoops2
import Derived.Test.YtegjfjckijmgcaaSls
set_option linter.unusedVariables false
set_option linter.unusedSimpArgs false
set_option maxRecDepth 100000
namespace Go.Proofs.Ytegjfjckijmgcaa
open Aw
/-- A product, by the numbers of its elements. -/
def gp (a : GAlgebra) (i k : Nat) : Int := (a.product.getD i []).getD k 0
def gN (a : GAlgebra) (i k : Nat) : Nat := (gp a i k).toNat
def lsOk (a : GAlgebra) : Bool := inR a.accept.length 1 40 && decide (a.product.length = a.accept.length) && decide (a.wrap.length = 4) && okSts a.accept.length 2 a.inner && a.product.all (okSts a.accept.length a.accept.length) && a.wrap.all (okSts a.accept.length a.accept.length)
def unitOk (a : GAlgebra) (i : Nat) : Bool := decide (gp a 0 i = (i : Int)) && decide (gp a i 0 = (i : Int))
def asOk (a : GAlgebra) (i k j : Nat) : Bool := decide (gp a (gN a i k) j = gp a i (gN a k j))
def asI (a : GAlgebra) (i : Nat) : Bool := (List.range a.accept.length).all fun k => (List.range a.accept.length).all fun j => asOk a i k j
def okAl (a : GAlgebra) : Bool := lsOk a && (List.range a.accept.length).all (unitOk a) && (List.range a.accept.length).all (asI a)
theorem okSts_mem {n many : Int} {l : List Int} (h : okSts n many l = true) : (l.length : Int) = many ∧ ∀ x ∈ l, 0 ≤ x ∧ x < n := by
  simp only [okSts, inR, Bool.and_eq_true, decide_eq_true_eq, List.all_eq_true] at h
  exact ⟨h.1, fun x hx => by have := h.2 x hx; omega⟩
structure AlL (a : GAlgebra) : Prop where
  n : 1 ≤ a.accept.length ∧ a.accept.length ≤ 40
  pl : a.product.length = a.accept.length
  row : ∀ x (h : x < a.product.length), (a.product[x]).length = a.accept.length
  val : ∀ x y (h : x < a.product.length) (k : y < (a.product[x]).length), (a.product[x])[y] = ((gN a x y : Nat) : Int)
  lt : ∀ x y, x < a.accept.length → y < a.accept.length → gN a x y < a.accept.length
theorem lsOk_al {a : GAlgebra} (h : lsOk a = true) : AlL a := by
  simp only [lsOk, Bool.and_eq_true, decide_eq_true_eq, List.all_eq_true] at h
  obtain ⟨⟨⟨⟨⟨h1, h2⟩, h3⟩, h4⟩, h5⟩, h6⟩ := h
  simp only [inR, Bool.and_eq_true, decide_eq_true_eq] at h1
  have row : ∀ x (h : x < a.product.length), (a.product[x]).length = a.accept.length := fun x hx => by
    have := (okSts_mem (h5 _ (List.getElem_mem hx))).1; omega
  have val : ∀ x y (h : x < a.product.length) (k : y < (a.product[x]).length), gp a x y = (a.product[x])[y] := fun x y hx hy => by
    unfold gp
    simp [List.getD_eq_getElem?_getD, List.getElem?_eq_getElem hx, List.getElem?_eq_getElem hy]
  have rng : ∀ x y (h : x < a.product.length) (k : y < (a.product[x]).length), 0 ≤ gp a x y ∧ gp a x y < a.accept.length := fun x y hx hy => by
    have := (okSts_mem (h5 _ (List.getElem_mem hx))).2 _ (List.getElem_mem hy)
    rw [val x y hx hy]; exact this
  refine ⟨by omega, h2, row, fun x y hx hy => ?_, fun x y hx hy => ?_⟩
  · rw [← val x y hx hy]
    have := rng x y hx hy
    unfold gN; omega
  · have hx' : x < a.product.length := by omega
    have := rng x y hx' (by rw [row x hx']; exact hy)
    unfold gN; omega
theorem AlL.gp {a : GAlgebra} (h : AlL a) {x y : Nat} (hx : x < a.accept.length) (hy : y < a.accept.length) : gp a x y = ((gN a x y : Nat) : Int) := by
  have hx' : x < a.product.length := by rw [h.pl]; exact hx
  have hy' : y < (a.product[x]).length := by rw [h.row x hx']; exact hy
  rw [← h.val x y hx' hy']
  unfold Go.Proofs.Ytegjfjckijmgcaa.gp
  simp [List.getD_eq_getElem?_getD, List.getElem?_eq_getElem hx', List.getElem?_eq_getElem hy']
theorem asOk_iff {a : GAlgebra} (h : AlL a) {i k j : Nat} (hi : i < a.accept.length) (hk : k < a.accept.length) (hj : j < a.accept.length) : asOk a i k j = decide (gN a (gN a i k) j = gN a i (gN a k j)) := by
  unfold asOk
  rw [h.gp (h.lt i k hi hk) hj, h.gp hi (h.lt k j hk hj)]
  congr 1; simp
theorem unitOk_iff {a : GAlgebra} (h : AlL a) {i : Nat} (hi : i < a.accept.length) : unitOk a i = (decide (gN a 0 i = i) && decide (gN a i 0 = i)) := by
  unfold unitOk
  have := h.n
  rw [h.gp (by omega) hi, h.gp hi (by omega)]
  congr 1 <;> simp

/-! ### The program's apart -/
abbrev AgP (a : GAlgebra) : PV := .fptr [lst 1 a.product, lst 1 a.wrap, lst 1 a.inner, lst 1 a.accept] 0
@[simp] abbrev z3 : PV := .agg [i64 0, i64 0, i64 0]
theorem ev_elements (a : GAlgebra) : ev fns i_impl_Algebra_elements [a.v] [] = some (i64 a.accept.length, []) := by
  refine go_impl_Algebra_elements (by simp) ?_
  have h : ev fns i_impl_size_bool [lst 1 a.accept] [] = some (i64 a.accept.length, []) := by
    refine go_impl_size_bool (by simp) ?_
    simp [ac_impl_size_bool]
  simp at h
  simp [ac_impl_Algebra_elements, h]
/-- Numbers below n: all of them, or something of the first that is not so. -/
theorem loop_until {β : Type} {F : Nat → β} {n : Nat} {p : Nat → Bool} {Q : β → Prop} (hs : ∀ k, k < n → (p k = true → F k = F (k + 1)) ∧ (p k = false → Q (F k))) :
    ((List.range n).all p = true → F 0 = F n) ∧ ((List.range n).all p = false → Q (F 0)) := by
  have key : ∀ d k, d + k = n → ((∀ i, k ≤ i → i < n → p i = true) → F k = F n) ∧ ((∃ i, k ≤ i ∧ i < n ∧ p i = false) → Q (F k)) := by
    intro d
    induction d with
    | zero => intro k h; have : k = n := by omega
              subst this; exact ⟨fun _ => rfl, fun ⟨i, h1, h2, _⟩ => by omega⟩
    | succ d ih =>
      intro k h
      obtain ⟨h1, h2⟩ := hs k (by omega)
      obtain ⟨i1, i2⟩ := ih (k + 1) (by omega)
      refine ⟨fun hp => (h1 (hp k (Nat.le_refl _) (by omega))).trans (i1 fun i a b => hp i (by omega) b), fun ⟨i, a, b, c⟩ => ?_⟩
      cases hk : p k with
      | false => exact h2 hk
      | true =>
        rw [h1 hk]
        refine i2 ⟨i, ?_, b, c⟩
        rcases Nat.lt_or_ge k i with h | h
        · exact h
        · have : i = k := by omega
          subst this; rw [hk] at c; cases c
  obtain ⟨k1, k2⟩ := key n 0 (by omega)
  refine ⟨fun h => k1 fun i _ hi => by rw [List.all_eq_true] at h; exact h i (List.mem_range.2 hi), fun h => k2 ?_⟩
  rw [List.all_eq_false] at h
  obtain ⟨i, hi, hp⟩ := h
  exact ⟨i, Nat.zero_le _, List.mem_range.1 hi, by simpa using hp⟩
def IsAp (r : Option (PV × List AObj)) : Prop := ∃ x y z : Int, r = some (.tup [.agg [i64 x, i64 y, i64 z], bol true], [])
set_option maxHeartbeats 4000000 in
theorem lo_apart_0 {a : GAlgebra} (ha : AlL a) (i k : Nat) (hi : i < a.accept.length) (hk : k < a.accept.length) (ks : List KI) (l10 l11 l14 l15 : Int) :
    ((List.range a.accept.length).all (asOk a i k) = true → rE fns fa_impl_Algebra_apart 0 (.code lo_impl_Algebra_apart_0 :: .inBlock 4 :: ks) [(19, i64 0), (18, i64 a.accept.length), (15, i64 l15), (14, i64 l14), (11, i64 l11), (10, i64 l10), (6, i64 k), (5, i64 i), (4, i64 a.accept.length), (2, .ptr 0 0 0 0), (1, AgP a)] [.row 3 [z3] 0] =
      rE fns fa_impl_Algebra_apart 0 ks [(15, i64 l15), (14, i64 l14), (11, i64 l11), (10, i64 l10), (5, i64 i), (4, i64 a.accept.length), (2, .ptr 0 0 0 0), (1, AgP a)] [.row 3 [z3] 0]) ∧
    ((List.range a.accept.length).all (asOk a i k) = false → IsAp (rE fns fa_impl_Algebra_apart 0 (.code lo_impl_Algebra_apart_0 :: .inBlock 4 :: ks) [(19, i64 0), (18, i64 a.accept.length), (15, i64 l15), (14, i64 l14), (11, i64 l11), (10, i64 l10), (6, i64 k), (5, i64 i), (4, i64 a.accept.length), (2, .ptr 0 0 0 0), (1, AgP a)] [.row 3 [z3] 0])) := by
  have hn := ha.n
  have key := loop_until (F := fun j => rE fns fa_impl_Algebra_apart 0 (.code lo_impl_Algebra_apart_0 :: .inBlock 4 :: ks) [(19, i64 (j : Nat)), (18, i64 a.accept.length), (15, i64 l15), (14, i64 l14), (11, i64 l11), (10, i64 l10), (6, i64 k), (5, i64 i), (4, i64 a.accept.length), (2, .ptr 0 0 0 0), (1, AgP a)] [.row 3 [z3] 0])
    (n := a.accept.length) (p := asOk a i k) (Q := IsAp) (fun j hj => by
      have hv := ha.val
      have hr := ha.row
      have hw := wrap_i64 (n := j + 1) (by omega)
      have q1 := ha.lt i k hi hk
      have q2 := ha.lt k j hk hj
      rw [asOk_iff ha hi hk hj, l_impl_Algebra_apart_0]
      by_cases c : gN a (gN a i k) j = gN a i (gN a k j)
      · refine ⟨fun _ => ?_, fun h => by simp [c] at h⟩
        simp [lb_impl_Algebra_apart_0, hj, hi, hk, ha.pl, hr, hv, q1, q2, c, hw, nvRow, PV.bels]
      · refine ⟨fun h => by simp [c] at h, fun _ => ⟨i, k, j, ?_⟩⟩
        simp [lb_impl_Algebra_apart_0, hj, hi, hk, ha.pl, hr, hv, q1, q2, c, setCells])
  refine ⟨fun h => ?_, fun h => by simpa using key.2 h⟩
  have e := key.1 h
  have e2 : rE fns fa_impl_Algebra_apart 0 (.code lo_impl_Algebra_apart_0 :: .inBlock 4 :: ks) [(19, i64 (a.accept.length : Nat)), (18, i64 a.accept.length), (15, i64 l15), (14, i64 l14), (11, i64 l11), (10, i64 l10), (6, i64 k), (5, i64 i), (4, i64 a.accept.length), (2, .ptr 0 0 0 0), (1, AgP a)] [.row 3 [z3] 0] =
      rE fns fa_impl_Algebra_apart 0 ks [(15, i64 l15), (14, i64 l14), (11, i64 l11), (10, i64 l10), (5, i64 i), (4, i64 a.accept.length), (2, .ptr 0 0 0 0), (1, AgP a)] [.row 3 [z3] 0] := by
    rw [l_impl_Algebra_apart_0]
    simp [lb_impl_Algebra_apart_0]
  exact e.trans e2

set_option maxHeartbeats 4000000 in
theorem lo_apart_1 {a : GAlgebra} (ha : AlL a) (i : Nat) (hi : i < a.accept.length) (ks : List KI) (l10 l11 : Int) :
    (asI a i = true → rE fns fa_impl_Algebra_apart 0 (.code lo_impl_Algebra_apart_1 :: .inBlock 2 :: ks) [(15, i64 0), (14, i64 a.accept.length), (11, i64 l11), (10, i64 l10), (5, i64 i), (4, i64 a.accept.length), (2, .ptr 0 0 0 0), (1, AgP a)] [.row 3 [z3] 0] =
      rE fns fa_impl_Algebra_apart 0 ks [(11, i64 l11), (10, i64 l10), (4, i64 a.accept.length), (2, .ptr 0 0 0 0), (1, AgP a)] [.row 3 [z3] 0]) ∧
    (asI a i = false → IsAp (rE fns fa_impl_Algebra_apart 0 (.code lo_impl_Algebra_apart_1 :: .inBlock 2 :: ks) [(15, i64 0), (14, i64 a.accept.length), (11, i64 l11), (10, i64 l10), (5, i64 i), (4, i64 a.accept.length), (2, .ptr 0 0 0 0), (1, AgP a)] [.row 3 [z3] 0])) := by
  have hn := ha.n
  have key := loop_until (F := fun k => rE fns fa_impl_Algebra_apart 0 (.code lo_impl_Algebra_apart_1 :: .inBlock 2 :: ks) [(15, i64 (k : Nat)), (14, i64 a.accept.length), (11, i64 l11), (10, i64 l10), (5, i64 i), (4, i64 a.accept.length), (2, .ptr 0 0 0 0), (1, AgP a)] [.row 3 [z3] 0])
    (n := a.accept.length) (p := fun k => (List.range a.accept.length).all fun j => asOk a i k j) (Q := IsAp) (fun k hk => by
      have hw := wrap_i64 (n := k + 1) (by omega)
      have lo := fun ks => lo_apart_0 ha i k hi hk ks l10 l11 a.accept.length k
      have lt := fun ks h => (lo ks).1 h
      have lf := fun ks h => (lo ks).2 h
      refine ⟨fun h => ?_, fun h => ?_⟩
      · have lt := fun ks => lt ks h
        rw [l_impl_Algebra_apart_1]
        simp at lt
        simp [lb_impl_Algebra_apart_1, hk, lt, hw, nvRow, PV.bels]
      · have lf := fun ks => lf ks h
        rw [l_impl_Algebra_apart_1]
        simp at lf
        simpa [lb_impl_Algebra_apart_1, hk, nvRow, PV.bels] using lf _)
  refine ⟨fun h => ?_, fun h => by simpa using key.2 h⟩
  have e := key.1 h
  have e2 : rE fns fa_impl_Algebra_apart 0 (.code lo_impl_Algebra_apart_1 :: .inBlock 2 :: ks) [(15, i64 (a.accept.length : Nat)), (14, i64 a.accept.length), (11, i64 l11), (10, i64 l10), (5, i64 i), (4, i64 a.accept.length), (2, .ptr 0 0 0 0), (1, AgP a)] [.row 3 [z3] 0] =
      rE fns fa_impl_Algebra_apart 0 ks [(11, i64 l11), (10, i64 l10), (4, i64 a.accept.length), (2, .ptr 0 0 0 0), (1, AgP a)] [.row 3 [z3] 0] := by
    rw [l_impl_Algebra_apart_1]
    simp [lb_impl_Algebra_apart_1]
  exact e.trans e2
set_option maxHeartbeats 4000000 in
theorem ev_apart {a : GAlgebra} (ha : AlL a) : ∃ x y z : Int, ev fns i_impl_Algebra_apart [a.v] [] = some (.tup [.agg [i64 x, i64 y, i64 z], bol (!(List.range a.accept.length).all (asI a))], []) := by
  have hn := ha.n
  have he := ev_elements a
  have key := fun ks => loop_until (F := fun k => rE fns fa_impl_Algebra_apart 0 (.code lo_impl_Algebra_apart_2 :: .inBlock 0 :: ks) [(11, i64 (k : Nat)), (10, i64 a.accept.length), (4, i64 a.accept.length), (2, .ptr 0 0 0 0), (1, AgP a)] [.row 3 [z3] 0])
    (n := a.accept.length) (p := asI a) (Q := IsAp) (fun k hk => by
      have hw := wrap_i64 (n := k + 1) (by omega)
      have lo := fun ks => lo_apart_1 ha k hk ks a.accept.length k
      have lt := fun ks h => (lo ks).1 h
      have lf := fun ks h => (lo ks).2 h
      refine ⟨fun h => ?_, fun h => ?_⟩
      · have lt := fun ks => lt ks h
        rw [l_impl_Algebra_apart_2]
        simp at lt
        simp [lb_impl_Algebra_apart_2, hk, lt, hw, nvRow, PV.bels]
      · have lf := fun ks => lf ks h
        rw [l_impl_Algebra_apart_2]
        simp at lf
        simpa [lb_impl_Algebra_apart_2, hk, nvRow, PV.bels] using lf _)
  simp at he
  cases h : (List.range a.accept.length).all (asI a)
  · have k1 := fun ks => (key ks).2 h
    obtain ⟨x, y, z, hk⟩ := k1 [.gh .nv, .code (.ghost (.kill [1, 4, 10, 11]) (.seq (.post (.reg [⟨(some 60), .op (.build [Value.int .i64 0, Value.int .i64 0, Value.int .i64 0] []), none⟩, ⟨none, .op (.store 3 (.tmp 2) (.tmp 60)), none⟩, ⟨(some 3), .op (.mv (.const (Value.bool false))), none⟩]) (.kill [60])) .ret))]
    refine ⟨x, y, z, go_impl_Algebra_apart (by simp) ?_⟩
    simp at hk
    simp [ac_impl_Algebra_apart, he, hk, nvRow, PV.bels]
  · have k1 := fun ks => (key ks).1 h
    have e2 : ∀ ks, rE fns fa_impl_Algebra_apart 0 (.code lo_impl_Algebra_apart_2 :: .inBlock 0 :: ks) [(11, i64 (a.accept.length : Nat)), (10, i64 a.accept.length), (4, i64 a.accept.length), (2, .ptr 0 0 0 0), (1, AgP a)] [.row 3 [z3] 0] =
        rE fns fa_impl_Algebra_apart 0 ks [(2, .ptr 0 0 0 0)] [.row 3 [z3] 0] := by
      intro ks
      rw [l_impl_Algebra_apart_2]
      simp [lb_impl_Algebra_apart_2]
    refine ⟨0, 0, 0, go_impl_Algebra_apart (by simp) ?_⟩
    simp at k1 e2
    simp [ac_impl_Algebra_apart, he, k1, e2, nvRow, PV.bels, setCells]
/-! ### The program's ValidAlgebra -/
theorem ev_Grow (n : Nat) (h0 : 0 < n) (hn : n ≤ 100000) : ev fns i_slices_Grow_L_L_int64 [.val (.slice none 0 0), i64 n] [] = some (.own 0 0 0 0, [.row 1 [] 0]) := by
  refine go_slices_Grow_L_L_int64 (by simp) ?_
  have hw := wrap_i64 (n := (n : Int)) (by omega)
  have b1 : n * 24 ≤ 140737488355328 := by omega
  have hb : ∀ k m, PV.bels k (List.replicate m (anyE 1)) = true := fun k m => bels_replicate (by simp [anyE, PV.bel]) m
  simp [ac_slices_Grow_L_L_int64, hw, h0, b1, hb, show ¬ ((n : Int) < 0) by omega, show (0 : Int) < n by omega, nvRow, PV.bels]
set_option maxHeartbeats 4000000 in
theorem ev_Concat (a b : List (List Int)) (ex : Bool) (h0 : 0 < a.length + b.length) (hn : a.length + b.length ≤ 1000) : ev fns i_slices_Concat_L_L_int64 [.list 1 [lst 1 a, lst 1 b] ex] [] = some (lst 1 (a ++ b), []) := by
  refine go_slices_Concat_L_L_int64 (by simp) ?_
  have w1 : IntKind.i64.wrap 1 = 1 := by decide
  have w2 : IntKind.i64.wrap 2 = 2 := by decide
  have wa := wrap_i64 (n := (a.length : Int)) (by omega)
  have wb := wrap_i64 (n := (a.length : Int) + b.length) (by omega)
  have hg := ev_Grow (a.length + b.length) h0 (by omega)
  have c1 : a.length * 24 ≤ 140737488355328 := by omega
  have c2 : (a.length + b.length) * 24 ≤ 140737488355328 := by omega
  have c3 : a.length + b.length ≤ 140737488355328 := by omega
  simp at hg
  simp [ac_slices_Concat_L_L_int64]
  rw [l_slices_Concat_L_L_int64_0]
  simp [lb_slices_Concat_L_L_int64_0, w1, w2, wa, show ¬ ((a.length : Int) < 0) by omega]
  rw [l_slices_Concat_L_L_int64_0]
  simp [lb_slices_Concat_L_L_int64_0, w1, w2, wb, show ¬ ((a.length : Int) + b.length < 0) by omega]
  rw [l_slices_Concat_L_L_int64_0]
  simp [lb_slices_Concat_L_L_int64_0, hg]
  rw [l_slices_Concat_L_L_int64_1]
  simp [lb_slices_Concat_L_L_int64_1, w1, w2, c1, nvRow, PV.bels]
  rw [l_slices_Concat_L_L_int64_1]
  simp [lb_slices_Concat_L_L_int64_1, w1, w2, c2, nvRow, PV.bels]
  rw [l_slices_Concat_L_L_int64_1]
  simp [lb_slices_Concat_L_L_int64_1, w1, w2, c2, c3, nvRow, PV.bels]
theorem ev_VA_1_1 (n x : Int) (hn : 1 ≤ n ∧ n ≤ 40) : ev fns i_impl_ValidAlgebra_1_1 [i64 x, .fptr [i64 n] 0] [] = some (bol (!inR x 0 (n - 1)), []) := by
  refine go_impl_ValidAlgebra_1_1 (by simp) ?_
  have hw := wrap_i64 (n := n - 1) (by omega)
  simp [ac_impl_ValidAlgebra_1_1, hw]
theorem ev_VA_1 (n many : Int) (hn : 1 ≤ n ∧ n ≤ 40) (l : List Int) (hl : l.length ≤ 1048576) : ev fns i_impl_ValidAlgebra_1 [lst 1 l, i64 many, .fptr [i64 n] 0] [] = some (bol (okSts n many l), []) := by
  refine go_impl_ValidAlgebra_1 (by simp) ?_
  have hs : ev fns i_impl_size_int64 [lst 1 l] [] = some (i64 l.length, []) := by
    refine go_impl_size_int64 (by simp) ?_
    simp [ac_impl_size_int64]
  have h4 := ev_ContainsFunc_Int64 l i_impl_ValidAlgebra_1_1 [.fptr [i64 n] 0] (by simp) (fun x => !inR x 0 (n - 1)) (by omega) (fun x hx => by
    have v := ev_VA_1_1 n x hn
    simp at v
    simp [v])
  simp [any_not_all] at h4
  simp at hs
  unfold okSts
  by_cases c : (l.length : Int) = many
  · simp [ac_impl_ValidAlgebra_1, hs, h4, c]
  · simp [ac_impl_ValidAlgebra_1, hs, c]
@[simp] abbrev fA1 (n : Int) : PV := .fn i_impl_ValidAlgebra_1 [.fptr [i64 n] 0]
theorem ev_VA_2 (n : Int) (hn : 1 ≤ n ∧ n ≤ 40) (l : List Int) (hl : l.length ≤ 1048576) : ev fns i_impl_ValidAlgebra_2 [lst 1 l, .fptr [fA1 n] 0, .fptr [i64 n] 0] [] = some (bol (okSts n n l), []) := by
  refine go_impl_ValidAlgebra_2 (by simp) ?_
  have h := ev_VA_1 n n hn l hl
  simp at h
  simp [ac_impl_ValidAlgebra_2, h]
@[simp] abbrev sVA (n : Nat) : List AObj := [.row 1 [i64 n] 0, .row 1 [.fn i_impl_ValidAlgebra_1 [.ptr 0 0 0 0]] 0]
set_option maxHeartbeats 8000000 in
theorem ev_impl_ValidAlgebra (a : GAlgebra) (hz : Siz.size a ≤ 1048576) : ev fns i_impl_ValidAlgebra [a.v] [] = some (bol (okAl a), []) := by
  have hel := ev_elements a
  have hsz : ∀ l : List (List Int), ev fns i_impl_size_L_int64 [lst 1 l] [] = some (i64 l.length, []) := fun l => by
    refine go_impl_size_L_int64 (by simp) ?_
    simp [ac_impl_size_L_int64]
  have hs1 := hsz a.product
  rw [size_Algebra] at hz
  refine go_impl_ValidAlgebra (by simp) ?_
  simp at hel hs1
  cases c1 : inR a.accept.length 1 40
  · simp [ac_impl_ValidAlgebra, hel, c1, okAl, lsOk, setCells, dfr, mapO]
  have c1' := c1
  simp only [inR, Bool.and_eq_true, decide_eq_true_eq] at c1'
  by_cases c2 : ¬ a.product.length = a.accept.length
  · simp [ac_impl_ValidAlgebra, hel, c1, hs1, show ¬ ((a.product.length : Int) = a.accept.length) by omega, okAl, lsOk, c2, setCells, dfr, mapO]
  replace c2 := Classical.not_not.1 c2
  by_cases c3 : ¬ a.wrap.length = 4
  · simp [ac_impl_ValidAlgebra, hel, c1, hs1, c2, show ¬ ((a.wrap.length : Int) = 4) by omega, okAl, lsOk, c3, setCells, dfr, mapO]
  replace c3 := Classical.not_not.1 c3
  have hvi := ev_VA_1 a.accept.length 2 c1' a.inner (by have := Siz.len_le a.inner; omega)
  cases c4 : okSts a.accept.length 2 a.inner
  · rw [c4] at hvi
    simp at hvi
    simp [ac_impl_ValidAlgebra, hel, c1, hs1, c2, c3, hvi, okAl, lsOk, c4, setCells, dfr, mapO]
  rw [c4] at hvi
  have hrow : ∀ l ∈ a.product ++ a.wrap, ev fns i_impl_ValidAlgebra_2 [lst 1 l, .fptr [fA1 a.accept.length] 0, .fptr [i64 a.accept.length] 0] [] = some (bol (okSts a.accept.length a.accept.length l), []) := fun l hl => by
    refine ev_VA_2 a.accept.length c1' l ?_
    have := Siz.len_le l
    rcases List.mem_append.1 hl with hl | hl
    · have := Siz.mem_le hl; omega
    · have := Siz.mem_le hl; omega
  have hcc := ev_Concat a.product a.wrap true (by omega) (by omega)
  have hLl : (a.product ++ a.wrap).length = a.accept.length + 4 := by rw [List.length_append, c2, c3]
  have hall : (a.product ++ a.wrap).all (okSts a.accept.length a.accept.length) = (a.product.all (okSts a.accept.length a.accept.length) && a.wrap.all (okSts a.accept.length a.accept.length)) := List.all_append
  generalize hL : a.product ++ a.wrap = L at *
  -- the rows
  have lo := fun ks => loop_forall (F := fun k => rE fns fa_impl_ValidAlgebra 0 (.code lo_impl_ValidAlgebra_0 :: .inBlock 0 :: ks) [(45, i64 (k : Nat)), (44, i64 (L.length : Nat)), (43, lst 1 L), (5, .fn i_impl_ValidAlgebra_2 [.ptr 1 0 0 0, .ptr 0 0 0 0]), (3, .ptr 0 0 0 0), (1, AgP a)] (sVA a.accept.length))
    (a := L) (p := okSts a.accept.length a.accept.length) (e := rE fns fa_impl_ValidAlgebra 0 ks [(3, .ptr 0 0 0 0), (1, AgP a)] (sVA a.accept.length)) (r := some (bol false, []))
    (fun k h => by
      have hr := hrow _ (List.getElem_mem h)
      have hw := wrap_i64 (n := k + 1) (by omega)
      rw [l_impl_ValidAlgebra_0]
      simp at hr
      cases c : okSts a.accept.length a.accept.length L[k]
      · rw [c] at hr
        refine ⟨fun h => by simp at h, fun _ => ?_⟩
        simp [lb_impl_ValidAlgebra_0, h, hr, dfr, mapO]
      · rw [c] at hr
        refine ⟨fun _ => ?_, fun h => by simp at h⟩
        simp [lb_impl_ValidAlgebra_0, h, hr, hw, dfr, mapO, nvRow, PV.bels, PV.bel, PV.nv, PV.nvs])
    (by
      rw [l_impl_ValidAlgebra_0]
      simp [lb_impl_ValidAlgebra_0])
  simp at hvi hcc
  cases c5 : L.all (okSts a.accept.length a.accept.length)
  · have e : okAl a = false := by
      rw [hall, Bool.and_eq_false_iff] at c5
      unfold okAl lsOk
      rcases c5 with c5 | c5 <;> simp [c5]
    rw [c5] at lo
    rw [e]
    simp at lo
    simp [ac_impl_ValidAlgebra, hel, c1, hs1, c2, c3, hvi, hcc, lo, setCells, dfr, mapO, nvRow, PV.bels, PV.bel, PV.nv, PV.nvs]
  · have hls : lsOk a = true := by
      rw [hall, Bool.and_eq_true] at c5
      unfold lsOk
      simp [c1, c2, c3, c4, c5.1, c5.2]
    have ha := lsOk_al hls
    obtain ⟨x, y, z, hap⟩ := ev_apart ha
    rw [c5] at lo
    have lo2 := fun ks => loop_below (F := fun k => rE fns fa_impl_ValidAlgebra 0 (.code lo_impl_ValidAlgebra_1 :: .inBlock 2 :: ks) [(55, i64 (k : Nat)), (54, i64 (a.accept.length : Nat)), (1, AgP a)] [])
      (n := a.accept.length) (p := unitOk a) (e := rE fns fa_impl_ValidAlgebra 0 ks [(1, AgP a)] []) (r := some (bol false, []))
      (fun k hk => by
        have hw := wrap_i64 (n := k + 1) (by omega)
        have hv := ha.val
        have hr := ha.row
        have h0 : 0 < a.accept.length := by omega
        rw [unitOk_iff ha hk, l_impl_ValidAlgebra_1]
        by_cases u1 : gN a 0 k = k
        · by_cases u2 : gN a k 0 = k
          · refine ⟨fun _ => ?_, fun h => by simp [u1, u2] at h⟩
            simp [lb_impl_ValidAlgebra_1, hk, ha.pl, hr, hv, h0, u1, u2, hw]
          · refine ⟨fun h => by simp [u2] at h, fun _ => ?_⟩
            simp [lb_impl_ValidAlgebra_1, hk, ha.pl, hr, hv, h0, u1, u2]
        · refine ⟨fun h => by simp [u1] at h, fun _ => ?_⟩
          simp [lb_impl_ValidAlgebra_1, hk, ha.pl, hr, hv, h0, u1])
      (by
        rw [l_impl_ValidAlgebra_1]
        simp [lb_impl_ValidAlgebra_1])
    unfold okAl
    rw [hls]
    cases c6 : (List.range a.accept.length).all (unitOk a)
    · rw [c6] at lo2
      simp at lo lo2
      simp [ac_impl_ValidAlgebra, hel, c1, hs1, c2, c3, hvi, hcc, lo, lo2, setCells, dfr, mapO, nvRow, PV.bels, PV.bel, PV.nv, PV.nvs]
    · rw [c6] at lo2
      simp at lo lo2 hap
      simp [ac_impl_ValidAlgebra, hel, c1, hs1, c2, c3, hvi, hcc, lo, lo2, hap, setCells, dfr, mapO, nvRow, PV.bels, PV.bel, PV.nv, PV.nvs]
end Go.Proofs.Ytegjfjckijmgcaa
