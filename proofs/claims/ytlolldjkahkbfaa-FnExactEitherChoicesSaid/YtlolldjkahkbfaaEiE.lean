/- Both choices: what comes of them, and the program's EitherChoices. -/
import Derived.Test.YtlolldjkahkbfaaEiD
set_option linter.unusedVariables false
set_option linter.unusedSimpArgs false
set_option maxRecDepth 100000
namespace Go.Proofs.Ytlolldjkahkbfaa
open Aw
/-! ### What comes of both -/
theorem okRis_mem {n : Int} {l : List Int} (h : okRis n l = true) : ∀ x ∈ l, 0 ≤ x ∧ x < n := by
  intro x hx
  obtain ⟨i, hi, rfl⟩ := List.mem_iff_getElem.1 hx
  have := (List.all_eq_true.1 h) i (List.mem_range.2 hi)
  unfold risAt at this
  rw [getD_at' hi] at this
  simp only [inR, Bool.and_eq_true, decide_eq_true_eq] at this
  omega
theorem okPus_mem {n st : Int} {l : List GPush} (h : okPus n st l = true) : ∀ p ∈ l, (0 ≤ p.to ∧ p.to < n) ∧ 0 ≤ p.put ∧ p.put < st := by
  intro x hx
  obtain ⟨i, hi, rfl⟩ := List.mem_iff_getElem.1 hx
  have := (List.all_eq_true.1 h) i (List.mem_range.2 hi)
  unfold puAt at this
  rw [getD_at' hi] at this
  simp only [inR, Bool.and_eq_true, decide_eq_true_eq] at this
  omega
theorem okRis_len {n : Int} {l : List Int} (h : okRis n l = true) : (l.length : Int) ≤ n ∨ l = [] := by
  have key : ∀ i (hi : i < l.length), (i : Int) ≤ l[i] := by
    intro i
    induction i with
    | zero =>
      intro hi
      have := okRis_mem h _ (List.getElem_mem hi)
      omega
    | succ i ih =>
      intro hi
      have h1 := ih (by omega)
      have := (List.all_eq_true.1 h) (i + 1) (List.mem_range.2 hi)
      unfold risAt at this
      rw [getD_at' hi, Nat.add_sub_cancel, getD_at' (by omega)] at this
      simp only [inR, Bool.and_eq_true, decide_eq_true_eq, Bool.or_eq_true] at this
      omega
  rcases Nat.eq_zero_or_pos l.length with h0 | h0
  · exact .inr (List.length_eq_zero_iff.1 h0)
  · have k1 := key (l.length - 1) (by omega)
    have k2 := okRis_mem h _ (List.getElem_mem (show l.length - 1 < l.length by omega))
    omega
theorem okPus_len {n st : Int} (hs : st ≤ 4) {l : List GPush} (h : okPus n st l = true) : (l.length : Int) ≤ 4 * n ∨ l = [] := by
  have hm := okPus_mem h
  have key : ∀ i (hi : i < l.length), (i : Int) ≤ 4 * l[i].to + l[i].put := by
    intro i
    induction i with
    | zero =>
      intro hi
      have := hm _ (List.getElem_mem hi)
      omega
    | succ i ih =>
      intro hi
      have h1 := ih (by omega)
      have m1 := hm _ (List.getElem_mem hi)
      have m2 := hm _ (List.getElem_mem (show i < l.length by omega))
      have := (List.all_eq_true.1 h) (i + 1) (List.mem_range.2 hi)
      unfold puAt pLt at this
      rw [getD_at' hi, Nat.add_sub_cancel, getD_at' (by omega)] at this
      simp only [inR, Bool.and_eq_true, decide_eq_true_eq, Bool.or_eq_true] at this
      omega
  rcases Nat.eq_zero_or_pos l.length with h0 | h0
  · exact .inr (List.length_eq_zero_iff.1 h0)
  · have k1 := key (l.length - 1) (by omega)
    have k2 := hm _ (List.getElem_mem (show l.length - 1 < l.length by omega))
    omega
/-- What is at a state: the lists are short. -/
structure ShS (x : GChoices) (X : Nat) : Prop where
  st : x.stack = (X : Int) ∧ 1 ≤ X ∧ X ≤ 4
  n : 1 ≤ x.accept.length ∧ x.accept.length ≤ 5
  s : x.starts.length ≤ 5 ∧ ∀ y ∈ x.starts, 0 ≤ y ∧ y ≤ 5
  l : x.call.length = x.accept.length ∧ x.ret.length = x.accept.length ∧ x.inner.length = x.accept.length
  c : ∀ s (h : s < x.call.length), x.call[s].length = 2 ∧ ∀ l ∈ x.call[s], l.length ≤ 20 ∧ ∀ p ∈ l, 0 ≤ p.to ∧ p.to ≤ 1000 ∧ 0 ≤ p.put ∧ p.put ≤ 1000
  r : ∀ s (h : s < x.ret.length), x.ret[s].length = 2 ∧ ∀ R ∈ x.ret[s], R.length = X + 1 ∧ ∀ l ∈ R, l.length ≤ 5 ∧ ∀ y ∈ l, 0 ≤ y ∧ y ≤ 1000
  i : ∀ s (h : s < x.inner.length), x.inner[s].length = 2 ∧ ∀ l ∈ x.inner[s], l.length ≤ 5 ∧ ∀ y ∈ l, 0 ≤ y ∧ y ≤ 1000
theorem okRis5 {n : Nat} {l : List Int} (hn : n ≤ 5) (h : okRis n l = true) : l.length ≤ 5 ∧ ∀ y ∈ l, 0 ≤ y ∧ y ≤ 5 := by
  have := okRis_len h
  refine ⟨?_, fun y hy => by have := okRis_mem h y hy; omega⟩
  rcases this with h | h
  · omega
  · rw [h]; simp
theorem okCh_sh {x : GChoices} (hok : okCh x = true) : ∃ X : Nat, ShS x X := by
  unfold okCh at hok
  simp only [inR, Bool.and_eq_true, decide_eq_true_eq] at hok
  obtain ⟨⟨⟨⟨⟨⟨h1, h2⟩, hs⟩, l1⟩, l2⟩, l3⟩, hr⟩ := hok
  have n1 : 1 ≤ x.accept.length := by omega
  have n2 : x.accept.length ≤ 5 := by omega
  obtain ⟨X, n4, n5, n6⟩ : ∃ X : Nat, x.stack = (X : Int) ∧ 1 ≤ X ∧ X ≤ 4 := ⟨x.stack.toNat, by omega, by omega, by omega⟩
  have row : ∀ s, s < x.accept.length → ((x.call.getD s []).length = 2 ∧ (x.ret.getD s []).length = 2 ∧ (x.inner.getD s []).length = 2) ∧ ∀ k, k < 2 → chK x.accept.length x.stack ((x.call.getD s []).getD k []) ((x.ret.getD s []).getD k []) ((x.inner.getD s []).getD k []) = true := by
    intro s hs
    have hr := (List.all_eq_true.1 hr) s (List.mem_range.2 hs)
    unfold chS chRow at hr
    simp only [Bool.and_eq_true, decide_eq_true_eq] at hr
    obtain ⟨⟨⟨q1, q2⟩, q3⟩, hr⟩ := hr
    exact ⟨⟨q1, q2, q3⟩, fun k hk => (List.all_eq_true.1 hr) k (List.mem_range.2 hk)⟩
  refine ⟨X, ⟨n4, n5, n6⟩, ⟨n1, n2⟩, okRis5 n2 hs, ⟨l1, l2, l3⟩, fun s h => ?_, fun s h => ?_, fun s h => ?_⟩
  · obtain ⟨⟨q1, q2, q3⟩, q⟩ := row s (by omega)
    rw [getD_at' h] at q1
    refine ⟨q1, fun l hl => ?_⟩
    obtain ⟨k, hk, rfl⟩ := List.mem_iff_getElem.1 hl
    have := q k (by omega)
    unfold chK at this
    rw [getD_at' h, getD_at' hk] at this
    simp only [Bool.and_eq_true, decide_eq_true_eq] at this
    have hp := this.1.1.1
    have := okPus_len (by omega) hp
    refine ⟨?_, fun p hp' => by have := okPus_mem hp p hp'; omega⟩
    rcases this with h | h
    · omega
    · rw [h]; simp
  · obtain ⟨⟨q1, q2, q3⟩, q⟩ := row s (by omega)
    rw [getD_at' h] at q2
    refine ⟨q2, fun l hl => ?_⟩
    obtain ⟨k, hk, rfl⟩ := List.mem_iff_getElem.1 hl
    have := q k (by omega)
    unfold chK at this
    rw [getD_at' h, getD_at' hk] at this
    simp only [Bool.and_eq_true, decide_eq_true_eq] at this
    refine ⟨by omega, fun y hy => ?_⟩
    obtain ⟨a, b⟩ := okRis5 n2 (List.all_eq_true.1 this.2 y hy)
    exact ⟨a, fun z hz => by have := b z hz; omega⟩
  · obtain ⟨⟨q1, q2, q3⟩, q⟩ := row s (by omega)
    rw [getD_at' h] at q3
    refine ⟨q3, fun l hl => ?_⟩
    obtain ⟨k, hk, rfl⟩ := List.mem_iff_getElem.1 hl
    have := q k (by omega)
    unfold chK at this
    rw [getD_at' h, getD_at' hk] at this
    simp only [Bool.and_eq_true, decide_eq_true_eq] at this
    obtain ⟨a, b⟩ := okRis5 n2 this.1.1.2
    exact ⟨a, fun z hz => by have := b z hz; omega⟩
theorem ShS.y {x : GChoices} {X : Nat} (h : ShS x X) : EiY x X :=
  ⟨⟨h.st.1, fun s hs => ⟨(h.c s hs).1, fun l hl => by have := (h.c s hs).2 l hl; exact ⟨by omega, this.2⟩⟩, fun s hs => ⟨(h.r s hs).1, fun R hR => ⟨((h.r s hs).2 R hR).1, fun l hl => by have := ((h.r s hs).2 R hR).2 l hl; exact ⟨by omega, this.2⟩⟩⟩,
    fun s hs => ⟨(h.i s hs).1, fun l hl => by have := (h.i s hs).2 l hl; exact ⟨by omega, this.2⟩⟩⟩, h.n.2, h.l.1, h.l.2.1, h.l.2.2, ⟨by have := h.s.1; omega, fun y hy => by have := h.s.2 y hy; omega⟩⟩
def eiO (a b : GChoices) : GChoices :=
  ⟨((a.stack.toNat + b.stack.toNat : Nat) : Int), raiL a.starts 0 ++ raiL b.starts a.accept.length, a.accept ++ b.accept, eiC3 a 0 0 a.accept.length ++ eiC3 b a.accept.length a.stack.toNat b.accept.length,
    eiB3 a a.stack.toNat (a.stack.toNat + b.stack.toNat) 0 0 a.accept.length ++ eiB3 b b.stack.toNat (a.stack.toNat + b.stack.toNat) a.stack.toNat a.accept.length b.accept.length,
    eiI3 a 0 a.accept.length ++ eiI3 b a.accept.length b.accept.length⟩
def zCh0 : GChoices := ⟨0, [], [], [], [], []⟩
/-- What EitherChoices answers. -/
def eiA (a b : GChoices) : GChoices × Int :=
  if okCh a = true ∧ okCh b = true then (if okCh (eiO a b) = true then (eiO a b, 0) else (zCh0, 3)) else (zCh0, 1)
/-! ### Its size -/
theorem sum_le_all {β : Type} [Siz β] (B : Nat) : ∀ l : List β, (∀ x ∈ l, Siz.size x ≤ B) → Siz.size l ≤ l.length * (B + 1)
  | [], _ => by simp [Siz.size_list, Siz.sum]
  | x :: l, h => by
    have h1 := h x (by simp)
    have h2 := sum_le_all B l fun y hy => h y (by simp [hy])
    rw [Siz.size_list] at h2 ⊢
    simp only [Siz.sum, List.length_cons]
    rw [Nat.add_mul]
    omega
theorem size_app {β : Type} [Siz β] (l l' : List β) : Siz.size (l ++ l') = Siz.size l + Siz.size l' := by
  induction l with
  | nil => simp [Siz.size_list, Siz.sum]
  | cons x l ih => rw [Siz.size_list] at *; simp only [List.cons_append, Siz.sum, List.length_cons]; rw [Siz.size_list] at *; simp only [Siz.sum, List.length_cons] at *; omega
theorem size_rai (l : List Int) (b : Int) : Siz.size (raiL l b) = l.length := by rw [Siz.size_flat_int]; simp [raiL]
theorem size_push0 (l : List GPush) : Siz.size l = l.length := by rw [Siz.size_list, Siz.sum_zero (fun _ => rfl)]; rfl
theorem size_C3 {x : GChoices} {X : Nat} (h : ShS x X) (st mk : Int) : Siz.size (eiC3 x st mk x.accept.length) ≤ 5 * 43 := by
  have hn := h.n.2
  have hl := h.l
  refine Nat.le_trans (sum_le_all 42 _ fun y hy => ?_) (by simp only [eiC3, List.length_map, List.length_range]; omega)
  obtain ⟨s, hs, rfl⟩ := List.mem_map.1 hy
  have hs := List.mem_range.1 hs
  refine Nat.le_trans (sum_le_all 20 _ fun z hz => ?_) (by simp)
  obtain ⟨k, hk, rfl⟩ := List.mem_map.1 hz
  have hk := List.mem_range.1 hk
  obtain ⟨c1, c2⟩ := h.c s (by omega)
  rw [size_push0]
  unfold eiC
  rw [getD_at' (show s < x.call.length by omega), getD_at' (show k < x.call[s].length by omega)]
  simpa using (c2 _ (List.getElem_mem (show k < x.call[s].length by omega))).1
theorem eiLst_mem {R : List (List Int)} {X S mk : Nat} {st : Int} {B : Nat} (hR : ∀ l ∈ R, l.length ≤ B) : ∀ k, ∀ l ∈ eiLst R X S mk st k, l.length ≤ B
  | 0, l, hl => by simp only [eiLst] at hl; rw [(List.mem_replicate.1 hl).2]; simp
  | k + 1, l, hl => by
    simp only [eiLst] at hl
    rcases List.mem_or_eq_of_mem_set hl with hl | rfl
    · exact eiLst_mem hR k l hl
    · simp only [raiL, List.length_map]
      by_cases c : k < R.length
      · rw [getD_at' c]; exact hR _ (List.getElem_mem c)
      · rw [List.getD_eq_getElem?_getD, List.getElem?_eq_none (by omega)]; simp
theorem size_B3 {x : GChoices} {X : Nat} (h : ShS x X) (S mk : Nat) (hS : S ≤ 8) (st : Int) : Siz.size (eiB3 x X S mk st x.accept.length) ≤ 5 * 111 := by
  have hn := h.n.2
  have hl := h.l
  refine Nat.le_trans (sum_le_all 110 _ fun y hy => ?_) (by simp only [eiB3, List.length_map, List.length_range]; omega)
  obtain ⟨s, hs, rfl⟩ := List.mem_map.1 hy
  have hs := List.mem_range.1 hs
  refine Nat.le_trans (sum_le_all 54 _ fun z hz => ?_) (by simp)
  obtain ⟨k, hk, rfl⟩ := List.mem_map.1 hz
  have hk := List.mem_range.1 hk
  obtain ⟨c1, c2⟩ := h.r s (by omega)
  unfold eiB
  rw [getD_at' (show s < x.ret.length by omega), getD_at' (show k < x.ret[s].length by omega)]
  refine Nat.le_trans (sum_le_all 5 _ fun l hl => ?_) (by rw [eiLst_len]; omega)
  rw [Siz.size_flat_int]
  exact eiLst_mem (fun l hl => ((c2 _ (List.getElem_mem (show k < x.ret[s].length by omega))).2 l hl).1) _ l hl
theorem size_I3 {x : GChoices} {X : Nat} (h : ShS x X) (st : Int) : Siz.size (eiI3 x st x.accept.length) ≤ 5 * 13 := by
  have hn := h.n.2
  have hl := h.l
  refine Nat.le_trans (sum_le_all 12 _ fun y hy => ?_) (by simp only [eiI3, List.length_map, List.length_range]; omega)
  obtain ⟨s, hs, rfl⟩ := List.mem_map.1 hy
  have hs := List.mem_range.1 hs
  refine Nat.le_trans (sum_le_all 5 _ fun z hz => ?_) (by simp)
  obtain ⟨k, hk, rfl⟩ := List.mem_map.1 hz
  have hk := List.mem_range.1 hk
  obtain ⟨c1, c2⟩ := h.i s (by omega)
  unfold eiI
  rw [getD_at' (show s < x.inner.length by omega), getD_at' (show k < x.inner[s].length by omega), size_rai]
  exact (c2 _ (List.getElem_mem (show k < x.inner[s].length by omega))).1
theorem size_eiO {a b : GChoices} {A B : Nat} (ha : ShS a A) (hb : ShS b B) : Siz.size (eiO a b) ≤ 100000 := by
  have a1 := ha.st; have b1 := hb.st
  have eA : a.stack.toNat = A := by omega
  have eB : b.stack.toNat = B := by omega
  unfold eiO
  rw [size_Choices, eA, eB]
  simp only [size_app, size_rai, Siz.size_flat_bool]
  have := size_C3 ha 0 0; have := size_C3 hb a.accept.length A
  have := size_B3 ha (A + B) 0 (by omega) 0; have := size_B3 hb (A + B) A (by omega) a.accept.length
  have := size_I3 ha 0; have := size_I3 hb a.accept.length
  have := ha.n; have := hb.n; have := ha.s.1; have := hb.s.1
  omega
theorem leC_EitherChoices (a : GChoices) (ha : Siz.size a ≤ 1048576) (b : GChoices) (hb : Siz.size b ≤ 1048576) : Siz.size (eiA a b).1 ≤ 1048576 := by
  have hz : Siz.size zCh0 ≤ 1048576 := by simp [zCh0, size_Choices, Siz.size_list, Siz.sum]
  unfold eiA
  split
  · rename_i h
    split
    · obtain ⟨A, hA⟩ := okCh_sh h.1
      obtain ⟨B, hB⟩ := okCh_sh h.2
      have := size_eiO hA hB
      simp only; omega
    · exact hz
  · exact hz
end Go.Proofs.Ytlolldjkahkbfaa
