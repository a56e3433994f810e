/- Words: which are matched; the program's and the reference's. -/
import Derived.Test.YtoliadfdklfmfaaWord
set_option linter.unusedVariables false
set_option linter.unusedSimpArgs false
set_option maxRecDepth 100000
namespace Go.Proofs.Ytoliadfdklfmfaa
open Aw

/-- How many places are pending and such. -/
def cnt (P : Int → Bool) : List Int → List Int → Nat
  | o :: os, c :: cs => (if o = -2 ∧ P c = true then 1 else 0) + cnt P os cs
  | _, _ => 0
theorem cnt_snoc (P : Int → Bool) (x c : Int) : ∀ (os cs : List Int), os.length = cs.length → cnt P (os ++ [x]) (cs ++ [c]) = cnt P os cs + (if x = -2 ∧ P c = true then 1 else 0)
  | [], [], _ => by simp [cnt]
  | [], c :: cs, h => by simp at h
  | o :: os, [], h => by simp at h
  | o :: os, d :: cs, h => by
    have := cnt_snoc P x c os cs (by simpa using h)
    simp only [List.cons_append, cnt, this]; omega
theorem cnt_set (P : Int → Bool) {v c : Int} (hv : v ≠ -2) : ∀ (os cs : List Int) (k : Nat), os[k]? = some (-2) → cs[k]? = some c → cnt P os cs = cnt P (os.set k v) cs + (if P c = true then 1 else 0)
  | [], cs, k, h, _ => by simp at h
  | o :: os, [], k, _, h => by simp at h
  | o :: os, d :: cs, 0, h, h' => by
    simp at h h'; subst h; subst h'
    simp [cnt, hv]; omega
  | o :: os, d :: cs, k + 1, h, h' => by
    simp at h h'
    have := cnt_set P hv os cs k h h'
    simp only [List.set_cons_succ, cnt, this]; omega
structure CInv (cs : List Int) (m : Mst) : Prop where
  ok : MOk cs.length m
  ret : m.ret.length = cnt isRetB m.par cs
  cal : m.cal.length = cnt isCallB m.par cs
  pnd : ∀ p ∈ m.cal, m.par[p.toNat]? = some (-2) ∧ ∃ c, cs[p.toNat]? = some c ∧ isCallB c = true
  asc : m.cal.Pairwise (· < ·)
theorem callB_not_ret {c : Int} (h : isCallB c = true) : isRetB c = false := by
  simp [isRetB, isCallB] at h ⊢; omega
theorem CInv.step {cs : List Int} {m : Mst} (h : CInv cs m) (c : Int) : CInv (cs ++ [c]) (mstep m c) := by
  have hok := h.ok.step c
  obtain ⟨⟨h1, h2, h3, h4, h5, h6⟩, hr, hc, hp, ha⟩ := h
  refine ⟨by simpa using hok, ?_, ?_, ?_, ?_⟩
  all_goals unfold mstep; simp only
  · split
    · rename_i c1
      have c2 := retB_not_call c1
      split
      · rename_i p hp'
        have hm := List.mem_of_getLast? hp'
        obtain ⟨k1, d, k2, k3⟩ := hp p hm
        have := cnt_set isRetB (v := (m.par.length : Int)) (by omega) m.par cs p.toNat k1 k2
        rw [callB_not_ret k3] at this
        have hb := h6 p hm
        rw [cnt_snoc _ _ _ _ _ (by simp [h1])]
        simp at this
        rw [hr, this]; simp; omega
      · rw [cnt_snoc _ _ _ _ _ (by simp [h1])]; simp [c1, hr]
    · rename_i c1
      split
      · rename_i c2
        rw [cnt_snoc _ _ _ _ _ (by simp [h1])]; simp [c1, hr]
      · rw [cnt_snoc _ _ _ _ _ (by simp [h1])]; simp [c1, hr]
  · split
    · rename_i c1
      have c2 := retB_not_call c1
      split
      · rename_i p hp'
        have hm := List.mem_of_getLast? hp'
        obtain ⟨k1, d, k2, k3⟩ := hp p hm
        have := cnt_set isCallB (v := (m.par.length : Int)) (by omega) m.par cs p.toNat k1 k2
        rw [k3] at this
        have hb := h6 p hm
        rw [cnt_snoc _ _ _ _ _ (by simp [h1])]
        simp at this
        have hpos : 0 < m.cal.length := List.length_pos_of_mem hm
        simp [c2]; omega
      · rw [cnt_snoc _ _ _ _ _ (by simp [h1])]; simp [c2, hc]
    · rename_i c1
      split
      · rename_i c2
        rw [cnt_snoc _ _ _ _ _ (by simp [h1])]; simp [c2, hc]
      · rename_i c2
        rw [cnt_snoc _ _ _ _ _ (by simp [h1])]; simp [c2, hc]
  · have keep : ∀ p ∈ m.cal, ∀ x, (m.par ++ [x])[p.toNat]? = some (-2) ∧ ∃ d, (cs ++ [c])[p.toNat]? = some d ∧ isCallB d = true := by
      intro p hm x
      obtain ⟨k1, d, k2, k3⟩ := hp p hm
      refine ⟨?_, d, ?_, k3⟩
      · rw [List.getElem?_append_left (List.getElem?_eq_some_iff.1 k1).1]; exact k1
      · rw [List.getElem?_append_left (List.getElem?_eq_some_iff.1 k2).1]; exact k2
    split
    · split
      · rename_i p hp'
        intro q hq
        have hqm := List.dropLast_subset _ hq
        obtain ⟨k1, d, k2, k3⟩ := hp q hqm
        have hm := List.mem_of_getLast? hp'
        have hne : p.toNat ≠ q.toNat := by
          have e : m.cal = m.cal.dropLast ++ [p] := by
            rw [List.getLast?_eq_some_iff] at hp'
            obtain ⟨ys, hys⟩ := hp'
            rw [hys]; simp
          rw [e] at ha
          have := (List.pairwise_append.1 ha).2.2 q hq p (by simp)
          have b1 := h6 p hm
          have b2 := h6 q hqm
          omega
        refine ⟨?_, d, ?_, k3⟩
        · rw [List.getElem?_append_left (by simp; exact (List.getElem?_eq_some_iff.1 k1).1), List.getElem?_set_ne hne]; exact k1
        · rw [List.getElem?_append_left (List.getElem?_eq_some_iff.1 k2).1]; exact k2
      · intro p hm; exact keep p hm _
    · split
      · rename_i c2
        intro p hm
        rcases List.mem_append.1 hm with hm | hm
        · exact keep p hm _
        · simp at hm; subst hm
          refine ⟨by simp, c, by simp [h1], c2⟩
      · intro p hm; exact keep p hm _
  · split
    · split
      · exact ha.sublist (List.dropLast_sublist _)
      · exact ha
    · split
      · rw [List.pairwise_append]
        refine ⟨ha, by simp, fun a ha' b hb => ?_⟩
        simp at hb; subst hb
        have := h6 a ha'; omega
      · exact ha
theorem mmatch_cinv (cs : List Int) : CInv cs (mmatch cs) := by
  have key : ∀ (suf pre : List Int) (m : Mst), CInv pre m → CInv (pre ++ suf) (suf.foldl mstep m) := by
    intro suf
    induction suf with
    | nil => intro pre m h; simpa using h
    | cons c suf ih =>
      intro pre m h
      have := ih _ _ (h.step c)
      simpa using this
  have := key cs [] ⟨[], [], [], [0], []⟩ ⟨⟨rfl, by simp, by simp, rfl, rfl, by simp⟩, rfl, rfl, by simp, by simp⟩
  simpa [mmatch] using this
theorem mmatch_pmatch (cs : List Int) : (mmatch cs).par = (pmatch cs).1 ∧ (mmatch cs).cal = (pmatch cs).2 := by
  have key : ∀ (cs : List Int) (m : Mst) (s : Pst), m.par = s.1 → m.cal = s.2 → (cs.foldl mstep m).par = (cs.foldl pstep s).1 ∧ (cs.foldl mstep m).cal = (cs.foldl pstep s).2 := by
    intro cs
    induction cs with
    | nil => intro m s h1 h2; exact ⟨h1, h2⟩
    | cons c cs ih =>
      intro m s h1 h2
      refine ih _ _ ?_ ?_
      · unfold mstep pstep; simp only [h1, h2]
        cases c1 : isCallB c
        · cases c2 : isRetB c
          · simp
          · simp; cases s.2.getLast? <;> simp
        · simp [callB_not_ret c1]
      · unfold mstep pstep; simp only [h1, h2]
        cases c1 : isCallB c
        · cases c2 : isRetB c
          · simp
          · simp; cases s.2.getLast? <;> simp
        · simp [callB_not_ret c1]
  exact key cs _ _ rfl rfl

/-- Is it matched? -/
def isM (w : ByteArray) : Bool := decide ((mmatch (wl w)).ret.length + (mmatch (wl w)).cal.length = 0)
theorem cnt_fold (P Q : Int → Bool) : ∀ (os cs : List Int) (r q : Int),
    (os.zip cs).foldl (fun (s : Int × Int) x => (if x.1 = -2 ∧ P x.2 = true then s.1 + 1 else s.1, if x.1 = -2 ∧ Q x.2 = true then s.2 + 1 else s.2)) (r, q) = (r + cnt P os cs, q + cnt Q os cs)
  | [], cs, r, q => by simp [cnt]
  | o :: os, [], r, q => by simp [cnt]
  | o :: os, c :: cs, r, q => by
    simp only [List.zip_cons_cons, List.foldl_cons]
    rw [cnt_fold P Q os cs]
    simp only [cnt, Prod.mk.injEq]
    constructor <;> split <;> simp <;> omega
end Go.Proofs.Ytoliadfdklfmfaa
