/- The states to which moves lead: plain law. -/
import Derived.Test.YtoliadfdklfmfaaStepC
import Derived.Test.YtoliadfdklfmfaaAwS
set_option linter.unusedVariables false
set_option linter.unusedSimpArgs false
set_option maxRecDepth 100000
namespace Go.Proofs.Ytoliadfdklfmfaa
open Aw
/-- Where the moves of a state lead. -/
def nxC (c : GChecker) (s : Nat) : List Int := (c.ret.getD s []).getD 0 [] ++ ((c.ret.getD s []).getD 1 [] ++ (c.inner.getD s [] ++ (c.call.getD s []).map fun p => p.to))
/-- A state to which moves lead. -/
inductive Rch (c : GChecker) : Int → Prop where
  | start : Rch c c.start
  | step {s t : Int} : Rch c s → t ∈ nxC c s.toNat → Rch c t
theorem nxC_row {c : GChecker} {m : Nat} (h1 : m < c.call.length) (h2 : m < c.ret.length) (h3 : m < c.inner.length) {p0 p1 : GPush} {q0 q1 : List Int} {i0 i1 : Int} (e1 : c.call[m] = [p0, p1]) (e2 : c.ret[m] = [q0, q1]) (e3 : c.inner[m] = [i0, i1]) :
    nxC c m = q0 ++ (q1 ++ ([i0, i1] ++ [p0.to, p1.to])) := by
  simp [nxC, List.getD_eq_getElem?_getD, List.getElem?_eq_getElem h1, List.getElem?_eq_getElem h2, List.getElem?_eq_getElem h3, e1, e2, e3]
theorem nxC_in {c : GChecker} (hok : okCk c = true) {s : Int} (hs : 0 ≤ s ∧ s < c.accept.length) {t : Int} (ht : t ∈ nxC c s.toNat) : 0 ≤ t ∧ t < c.accept.length := by
  obtain ⟨m, h1, h2, h3, h4, p0, p1, q0, q1, i0, i1, es, e1, e2, e3, k1, k2, k3, k4, k5, k6⟩ := ck_at hok (s := s) (by simp only [inR, Bool.and_eq_true, decide_eq_true_eq]; omega)
  subst es
  rw [Int.toNat_natCast, nxC_row h1 h2 h3 e1 e2 e3] at ht
  simp only [okPsh, okSts, inR, Bool.and_eq_true, decide_eq_true_eq, List.all_eq_true] at k1 k2 k3 k4 k5 k6
  simp only [List.mem_append, List.mem_cons, List.not_mem_nil, or_false] at ht
  rcases ht with ht | ht | (rfl | rfl) | rfl | rfl
  · have := k3.2 t ht; omega
  · have := k4.2 t ht; omega
  · omega
  · omega
  · omega
  · omega
theorem rch_in {c : GChecker} (hok : okCk c = true) {s : Int} (h : Rch c s) : 0 ≤ s ∧ s < c.accept.length := by
  induction h with
  | start => have := (okCk_len hok).2.2.1; simp only [inR, Bool.and_eq_true, decide_eq_true_eq] at this; omega
  | step _ ht ih => exact nxC_in hok ih ht
/-- All of them: closed under the moves. -/
theorem rch_iff {c : GChecker} {out : List Int} (h0 : c.start ∈ out) (h1 : ∀ x ∈ out, Rch c x) (h2 : ∀ x ∈ out, ∀ t ∈ nxC c x.toNat, t ∈ out) (x : Int) : x ∈ out ↔ Rch c x := by
  refine ⟨h1 x, fun h => ?_⟩
  induction h with
  | start => exact h0
  | step _ ht ih => exact h2 _ ih _ ht
/-! ### In order -/
theorem asc_unique : ∀ {a b : List Int}, a.Pairwise (· < ·) → b.Pairwise (· < ·) → (∀ x, x ∈ a ↔ x ∈ b) → a = b
  | [], [], _, _, _ => rfl
  | [], y :: b, _, _, h => by have := (h y).2 (by simp); simp at this
  | x :: a, [], _, _, h => by have := (h x).1 (by simp); simp at this
  | x :: a, y :: b, ha, hb, h => by
    rw [List.pairwise_cons] at ha hb
    have hxy : x = y := by
      have h1 := (h x).1 (by simp)
      have h2 := (h y).2 (by simp)
      rcases List.mem_cons.1 h1 with e | h1
      · exact e
      rcases List.mem_cons.1 h2 with e | h2
      · exact e.symm
      have := hb.1 x h1; have := ha.1 y h2; omega
    subst hxy
    rw [asc_unique ha.2 hb.2 fun z => ?_]
    constructor
    · intro hz
      rcases List.mem_cons.1 ((h z).1 (List.mem_cons_of_mem _ hz)) with e | hz'
      · subst e; have := ha.1 z hz; omega
      · exact hz'
    · intro hz
      rcases List.mem_cons.1 ((h z).2 (List.mem_cons_of_mem _ hz)) with e | hz'
      · subst e; have := hb.1 z hz; omega
      · exact hz'
theorem sortI_mem (l : List Int) (x : Int) : x ∈ sortI l ↔ x ∈ l := (List.mergeSort_perm l _).mem_iff
theorem sortI_len (l : List Int) : (sortI l).length = l.length := List.length_mergeSort _
theorem sortI_asc {l : List Int} (h : l.Nodup) : (sortI l).Pairwise (· < ·) := by
  have h1 : (sortI l).Pairwise (fun x y => decide (x ≤ y) = true) := List.pairwise_mergeSort (fun a b c h1 h2 => by simp only [decide_eq_true_eq] at *; omega) (fun a b => by simp only [Bool.or_eq_true, decide_eq_true_eq]; omega) l
  have h2 : (sortI l).Nodup := (List.mergeSort_perm l _).nodup_iff.2 h
  refine (h1.and h2).imp fun h => ?_
  have h3 := h.1; have h4 := h.2
  simp only [decide_eq_true_eq] at h3
  simp only [ne_eq] at h4
  omega
open Classical in
/-- The states to which moves lead, in order. -/
noncomputable def usL (c : GChecker) : List Int := ((List.range c.accept.length).map Int.ofNat).filter fun s => decide (Rch c s)
theorem range_asc : ∀ n : Nat, ((List.range n).map Int.ofNat).Pairwise (· < ·)
  | 0 => by simp
  | n + 1 => by
    rw [List.range_succ, List.map_append, List.pairwise_append]
    refine ⟨range_asc n, by simp, fun a ha b hb => ?_⟩
    obtain ⟨k, hk, rfl⟩ := List.mem_map.1 ha
    have := List.mem_range.1 hk
    simp at hb
    subst hb
    show (k : Int) < (n : Int)
    omega
theorem usL_asc (c : GChecker) : (usL c).Pairwise (· < ·) := (range_asc _).filter _
theorem usL_mem {c : GChecker} (hok : okCk c = true) (x : Int) : x ∈ usL c ↔ Rch c x := by
  unfold usL
  rw [List.mem_filter]
  simp only [decide_eq_true_eq]
  refine ⟨fun h => h.2, fun h => ⟨?_, h⟩⟩
  have := rch_in hok h
  exact List.mem_map.2 ⟨x.toNat, List.mem_range.2 (by omega), Int.toNat_of_nonneg (by omega)⟩
theorem usL_eq {c : GChecker} (hok : okCk c = true) {l : List Int} (h : l.Pairwise (· < ·)) (hm : ∀ x, x ∈ l ↔ Rch c x) : l = usL c :=
  asc_unique h (usL_asc c) fun x => (hm x).trans (usL_mem hok x).symm
theorem usL_sort {c : GChecker} (hok : okCk c = true) {l : List Int} (h : l.Nodup) (hm : ∀ x, x ∈ l ↔ Rch c x) : sortI l = usL c :=
  usL_eq hok (sortI_asc h) fun x => (sortI_mem l x).trans (hm x)
theorem usL_len (c : GChecker) : (usL c).length ≤ c.accept.length := by
  unfold usL
  refine Nat.le_trans (List.length_filter_le _ _) (by simp)
/-- A list of states without one twice is no longer than there are states. -/
theorem nodup_len {n : Nat} {l : List Int} (h : l.Nodup) (hl : ∀ x ∈ l, 0 ≤ x ∧ x < n) : l.length ≤ n := by
  have h1 := asc_unique (sortI_asc h) ((range_asc n).filter fun x => decide (x ∈ l)) fun x => by
    rw [sortI_mem, List.mem_filter]
    simp only [decide_eq_true_eq]
    refine ⟨fun hx => ⟨?_, hx⟩, fun hx => hx.2⟩
    have := hl x hx
    exact List.mem_map.2 ⟨x.toNat, List.mem_range.2 (by omega), Int.toNat_of_nonneg (by omega)⟩
  rw [← sortI_len, h1]
  refine Nat.le_trans (List.length_filter_le _ _) (by simp)
/-! ### One by one -/
/-- One more, if it is not there yet. -/
def adU (out : List Int) (t : Int) : List Int := if t ∈ out then out else out ++ [t]
theorem adU_mem (out : List Int) (t x : Int) : x ∈ adU out t ↔ x ∈ out ∨ x = t := by
  unfold adU; split
  · rename_i h; exact ⟨.inl, fun h' => h'.elim id fun e => e ▸ h⟩
  · simp
theorem adU_nodup {out : List Int} (h : out.Nodup) (t : Int) : (adU out t).Nodup := by
  unfold adU; split
  · exact h
  · rename_i hn
    rw [List.nodup_append]
    exact ⟨h, by simp, fun a ha b hb e => by simp at hb; subst hb; subst e; exact hn ha⟩
theorem foldU_mem : ∀ (l out : List Int) (x : Int), x ∈ l.foldl adU out ↔ x ∈ out ∨ x ∈ l
  | [], out, x => by simp
  | t :: l, out, x => by rw [List.foldl_cons, foldU_mem l]; rw [adU_mem, List.mem_cons]; exact or_assoc
theorem foldU_nodup : ∀ (l : List Int) {out : List Int}, out.Nodup → (l.foldl adU out).Nodup
  | [], _, h => h
  | t :: l, _, h => foldU_nodup l (adU_nodup h t)
theorem foldU_pre : ∀ (l out : List Int), ∃ m, l.foldl adU out = out ++ m
  | [], out => ⟨[], by simp⟩
  | t :: l, out => by
    obtain ⟨m, h⟩ := foldU_pre l (adU out t)
    rw [List.foldl_cons, h]
    unfold adU; split
    · exact ⟨m, rfl⟩
    · exact ⟨t :: m, by simp⟩
/-- What is known where the program's search has come to i. -/
structure UsI (c : GChecker) (i : Nat) (out : List Int) : Prop where
  st : c.start ∈ out
  nd : out.Nodup
  rc : ∀ x ∈ out, Rch c x
  cl : ∀ j (h : j < out.length), j < i → ∀ t ∈ nxC c out[j].toNat, t ∈ out
  le : i ≤ out.length
theorem UsI.start (c : GChecker) : UsI c 0 [c.start] := ⟨by simp, by simp, by simp; exact .start, fun j _ h => by omega, by simp⟩
theorem UsI.next {c : GChecker} {i : Nat} {out : List Int} (h : UsI c i out) (hi : i < out.length) : UsI c (i + 1) ((nxC c out[i].toNat).foldl adU out) := by
  obtain ⟨m, hm⟩ := foldU_pre (nxC c out[i].toNat) out
  refine ⟨(foldU_mem _ _ _).2 (.inl h.st), foldU_nodup _ h.nd, fun x hx => ?_, fun j hj hji t ht => ?_, by rw [hm]; simp; omega⟩
  · rcases (foldU_mem _ _ _).1 hx with hx | hx
    · exact h.rc x hx
    · exact .step (h.rc _ (List.getElem_mem hi)) hx
  · have hj2 : j < out.length := by omega
    have e : ((nxC c out[i].toNat).foldl adU out)[j] = out[j] := by simp only [hm]; rw [List.getElem_append_left hj2]
    rw [e] at ht
    refine (foldU_mem _ _ _).2 ?_
    rcases Nat.lt_or_ge j i with hlt | hge
    · exact .inl (h.cl j hj2 hlt t ht)
    · have : j = i := by omega
      subst this
      exact .inr ht
theorem UsI.all {c : GChecker} {out : List Int} (h : UsI c out.length out) (x : Int) : x ∈ out ↔ Rch c x :=
  rch_iff h.st h.rc (fun x hx t ht => by
    obtain ⟨j, hj, rfl⟩ := List.mem_iff_getElem.1 hx
    exact h.cl j hj hj t ht) x
theorem UsI.len {c : GChecker} (hok : okCk c = true) {i : Nat} {out : List Int} (h : UsI c i out) : out.length ≤ c.accept.length :=
  nodup_len h.nd fun x hx => rch_in hok (h.rc x hx)
end Go.Proofs.Ytoliadfdklfmfaa
