/- Words put together and cut: the program's and the reference's PutAt, CutMatched and what they lean on. -/
import Derived.Test.YtlahdcofclkjjaaWord2
set_option linter.unusedVariables false
set_option linter.unusedSimpArgs false
set_option maxRecDepth 100000
namespace Go.Proofs.Ytlahdcofclkjjaa
open Aw

theorem wl_append (a b : ByteArray) : wl (a ++ b) = wl a ++ wl b := by simp [wl]
theorem wl_extract (w : ByteArray) (i j : Nat) : wl (w.extract i j) = ((wl w).take j).drop i := by
  simp [wl, List.map_take, List.map_drop, List.drop_take]
/-- All are symbols. -/
def allSym (cs : List Int) : Bool := cs.all fun c => decide (0 ≤ symIx c)
theorem okWord_eq (w : ByteArray) : okWord w = (allSym (wl w) && decide (w.size ≤ 60)) := rfl
theorem allSym_append (a b : List Int) : allSym (a ++ b) = (allSym a && allSym b) := by simp [allSym, List.all_append]
theorem allSym_cut {cs : List Int} (h : allSym cs = true) (i j : Nat) : allSym ((cs.take j).drop i) = true := by
  unfold allSym at *
  rw [List.all_eq_true] at *
  exact fun c hc => h c (List.mem_of_mem_take (List.mem_of_mem_drop hc))
theorem okWord_sym {w : ByteArray} (h : okWord w = true) : allSym (wl w) = true := by rw [okWord_eq] at h; simp at h; exact h.1
theorem okWord_size {w : ByteArray} (h : okWord w = true) : w.size ≤ 60 := by rw [okWord_eq] at h; simp at h; exact h.2

/-- A call's partner, if it has one, is behind it. -/
def PBeh (cs : List Int) (s : Pst) : Prop := ∀ (i : Nat) c p, cs[i]? = some c → isCallB c = true → s.1[i]? = some p → p = -2 ∨ ((i : Int) < p ∧ p < cs.length)
theorem PBeh.step {cs : List Int} {s : Pst} (hl : POk cs.length s) (h : PBeh cs s) (c : Int) : PBeh (cs ++ [c]) (pstep s c) := by
  intro i d p hd hc hp
  have h1 := hl.len
  have old : ∀ q, i < cs.length → s.1[i]? = some q → q = -2 ∨ ((i : Int) < q ∧ q < (cs ++ [c]).length) := by
    intro q hi hq
    rw [List.getElem?_append_left hi] at hd
    rcases h i d q hd hc hq with h | h
    · exact .inl h
    · right; simp; omega
  have new : ¬ i < cs.length → i = cs.length ∧ d = c := by
    intro hi
    have := (List.getElem?_eq_some_iff.1 hd).1
    simp at this
    have e : i = cs.length := by omega
    subst e
    simp at hd
    exact ⟨rfl, hd.symm⟩
  unfold pstep at hp
  simp only at hp
  by_cases hi : i < cs.length
  · split at hp
    · rw [List.getElem?_append_left (by omega)] at hp; exact old p hi hp
    · split at hp
      · split at hp
        · rename_i q hq
          rw [List.getElem?_append_left (by simp; omega), List.getElem?_set] at hp
          split at hp
          · rename_i e
            rw [if_pos (by omega)] at hp
            injection hp with hp; subst hp
            right; simp; omega
          · exact old p hi hp
        · rw [List.getElem?_append_left (by omega)] at hp; exact old p hi hp
      · rw [List.getElem?_append_left (by omega)] at hp; exact old p hi hp
  · obtain ⟨rfl, rfl⟩ := new hi
    rw [if_pos hc, List.getElem?_append_right (by omega)] at hp
    simp [h1] at hp
    exact .inl hp.symm
theorem pmatch_beh (cs : List Int) : PBeh cs (pmatch cs) := by
  have key : ∀ (suf pre : List Int) (s : Pst), POk pre.length s → PBeh pre s → PBeh (pre ++ suf) (suf.foldl pstep s) := by
    intro suf
    induction suf with
    | nil => intro pre s _ h; simpa using h
    | cons c suf ih =>
      intro pre s hl h
      have := ih (pre ++ [c]) _ (by simpa using hl.step c) (h.step hl c)
      simpa using this
  have := key cs [] ([], []) ⟨rfl, by simp, by simp⟩ (fun i c p h => by simp at h)
  simpa [pmatch] using this

/-- The partner of a place. -/
def parAt (w : ByteArray) (n : Nat) : Int := (pmatch (wl w)).1.getD n 0
def bodyA (w : ByteArray) (i : Int) : Int × Int :=
  if okWord w = true then
    if inR i 0 ((w.size : Int) - 1) = true then
      if isCallB (bt w i) = true ∧ 0 ≤ parAt w i.toNat then (parAt w i.toNat, 0) else (0, 4)
    else (0, 2)
  else (0, 1)
theorem bodyA_ok {w : ByteArray} {i : Int} (h : (bodyA w i).2 = 0) : ∃ n p : Nat, i = n ∧ (bodyA w i).1 = p ∧ n < p ∧ p < w.size ∧ okWord w = true := by
  unfold bodyA at h ⊢
  split at h
  · rename_i h1
    split at h
    · rename_i h2
      split at h
      · rename_i h3
        have h2' := h2
        simp [inR] at h2
        obtain ⟨n, rfl⟩ := Int.eq_ofNat_of_zero_le h2.1
        have hn : n < w.size := by omega
        rw [if_pos h1, if_pos h2', if_pos h3]
        simp only [Int.toNat_natCast] at h3 ⊢
        have hlen : (pmatch (wl w)).1.length = w.size := by rw [(pmatch_ok (wl w)).len]; simp
        have hp : (pmatch (wl w)).1[n]? = some (parAt w n) := by
          unfold parAt
          rw [List.getD_eq_getElem?_getD, List.getElem?_eq_getElem (by omega)]; rfl
        have hc : (wl w)[n]? = some (bt w n) := by rw [bt_wl hn]; exact List.getElem?_eq_getElem _
        rcases pmatch_beh (wl w) n _ _ hc h3.1 hp with h | h
        · omega
        · simp at h
          exact ⟨n, (parAt w n).toNat, rfl, by omega, by omega, by omega, h1⟩
      · simp at h
    · simp at h
  · simp at h

@[simp] theorem ev_impl_bodyAt (w : ByteArray) (i : Int) (hz : w.size ≤ 1048576) : ev fns i_impl_bodyAt [str w, i64 i] [] = some (.tup [i64 (bodyA w i).1, i64 (bodyA w i).2], []) := by
  refine go_impl_bodyAt (by simp) ?_
  have v1 := ev_impl_ValidWord w (by omega)
  have v2 := ev_impl_match w hz
  simp at v1 v2
  have hw := wrap_i64 (n := (w.size : Int) - 1) (by omega)
  unfold bodyA
  cases h1 : okWord w
  · simp [h1] at v1; simp [ac_impl_bodyAt, v1]
  · simp [h1] at v1
    cases h2 : inR i 0 ((w.size : Int) - 1)
    · simp [ac_impl_bodyAt, v1, hw, h2]
    · have h2' := h2
      simp [inR] at h2'
      obtain ⟨n, rfl⟩ := Int.eq_ofNat_of_zero_le h2'.1
      have hn : n < w.size := by omega
      have hpar := (mmatch_pmatch (wl w)).1
      have hlen : (pmatch (wl w)).1.length = w.size := by rw [(pmatch_ok (wl w)).len]; simp
      have hn2 : n < (pmatch (wl w)).1.length := by omega
      have hp : (pmatch (wl w)).1[n] = parAt w n := by
        unfold parAt
        rw [List.getD_eq_getElem?_getD, List.getElem?_eq_getElem hn2]; rfl
      cases h3 : isCallB (bt w n)
      · simp [ac_impl_bodyAt, v1, v2, hw, h2, hn, hpar, hlen, hn2, hp, h3]
      · by_cases h4 : 0 ≤ parAt w n
        · simp [ac_impl_bodyAt, v1, v2, hw, h2, hn, hpar, hlen, hn2, hp, h3, h4, show ¬ (parAt w n < 0) by omega]
        · simp [ac_impl_bodyAt, v1, v2, hw, h2, hn, hpar, hlen, hn2, hp, h3, h4, show (parAt w n < 0) by omega]
@[simp] theorem ev_spec_l01Closed (w : ByteArray) (i : Int) (hz : w.size ≤ 1048576) : ev fns i_spec_l01Closed [str w, i64 i] [] = some (.tup [i64 (bodyA w i).1, i64 (bodyA w i).2], []) := by
  refine go_spec_l01Closed (by simp) ?_
  have v1 := ev_spec_l01Ok w (by omega)
  have v2 := ev_spec_l01Partners w hz
  simp at v1 v2
  have hw := wrap_i64 (n := (w.size : Int) - 1) (by omega)
  unfold bodyA
  cases h1 : okWord w
  · simp [h1] at v1; simp [ac_spec_l01Closed, v1]
  · simp [h1] at v1
    cases h2 : inR i 0 ((w.size : Int) - 1)
    · simp [ac_spec_l01Closed, v1, hw, h2]
    · have h2' := h2
      simp [inR] at h2'
      obtain ⟨n, rfl⟩ := Int.eq_ofNat_of_zero_le h2'.1
      have hn : n < w.size := by omega
      have hlen : (pmatch (wl w)).1.length = w.size := by rw [(pmatch_ok (wl w)).len]; simp
      have hn2 : n < (pmatch (wl w)).1.length := by omega
      have hp : (pmatch (wl w)).1[n] = parAt w n := by
        unfold parAt
        rw [List.getD_eq_getElem?_getD, List.getElem?_eq_getElem hn2]; rfl
      cases h3 : isCallB (bt w n)
      · simp [ac_spec_l01Closed, v1, v2, hw, h2, hn, hlen, hn2, hp, h3]
      · by_cases h4 : 0 ≤ parAt w n
        · simp [ac_spec_l01Closed, v1, v2, hw, h2, hn, hlen, hn2, hp, h3, h4, show ¬ (parAt w n < 0) by omega]
        · simp [ac_spec_l01Closed, v1, v2, hw, h2, hn, hlen, hn2, hp, h3, h4, show (parAt w n < 0) by omega]

abbrev emp : ByteArray := ⟨#[]⟩
def orLim (x : ByteArray) : ByteArray × Int := if okWord x = true then (x, 0) else (emp, 3)
@[simp] theorem ev_impl_orLimit (x : ByteArray) (hz : x.size ≤ 9223372036854775806) : ev fns i_impl_orLimit [str x] [] = some (.tup [str (orLim x).1, i64 (orLim x).2], []) := by
  refine go_impl_orLimit (by simp) ?_
  have v1 := ev_impl_ValidWord x hz
  simp at v1
  unfold orLim
  cases h : okWord x
  · simp [h] at v1; simp [ac_impl_orLimit, v1]
  · simp [h] at v1; simp [ac_impl_orLimit, v1]
@[simp] theorem ev_spec_l01Told (x : ByteArray) (hs : allSym (wl x) = true) : ev fns i_spec_l01Told [str x] [] = some (.tup [str (orLim x).1, i64 (orLim x).2], []) := by
  refine go_spec_l01Told (by simp) ?_
  unfold orLim
  rw [okWord_eq, hs]
  by_cases h : x.size ≤ 60
  · simp [ac_spec_l01Told, h, show ¬ ((60 : Int) < x.size) by omega]
  · simp [ac_spec_l01Told, h, show ((60 : Int) < x.size) by omega]

def cutA (w : ByteArray) (i : Int) : ByteArray × Int := if (bodyA w i).2 = 0 then (w.extract 0 i.toNat ++ w.extract ((bodyA w i).1.toNat + 1) w.size, 0) else (emp, (bodyA w i).2)
@[simp] theorem ev_impl_CutMatched (w : ByteArray) (i : Int) (hz : w.size ≤ 1048576) : ev fns i_impl_CutMatched [str w, i64 i] [] = some (.tup [str (cutA w i).1, i64 (cutA w i).2], []) := by
  refine go_impl_CutMatched (by simp) ?_
  have v := ev_impl_bodyAt w i hz
  simp at v
  unfold cutA
  by_cases h : (bodyA w i).2 = 0
  · obtain ⟨n, p, rfl, hp, h1, h2, h3⟩ := bodyA_ok h
    have hw := wrap_i64 (n := (p : Int) + 1) (by omega)
    have e1 : n ≤ w.size := by omega
    have e2 : p + 1 ≤ w.size := by omega
    have e3 : ((p : Int) + 1).toNat = p + 1 := by omega
    have e4 : (0 : Int) ≤ p + 1 := by omega
    have e5 : n + (w.size - (p + 1)) ≤ 9223372036854775807 := by omega
    have hm : min n w.size = n := Nat.min_eq_left e1
    rw [hp, h] at v
    simp only [ac_impl_CutMatched]
    simp [v, hw, e1, e2, e3, e4, e5, hm, h, hp]
  · simp [ac_impl_CutMatched, v, h]
@[simp] theorem ev_spec_CutMatched (w : ByteArray) (i : Int) (hz : w.size ≤ 1048576) : ev fns i_spec_CutMatched [str w, i64 i] [] = some (.tup [str (cutA w i).1, i64 (cutA w i).2], []) := by
  refine go_spec_CutMatched (by simp) ?_
  have v := ev_spec_l01Closed w i hz
  simp at v
  unfold cutA
  by_cases h : (bodyA w i).2 = 0
  · obtain ⟨n, p, rfl, hp, h1, h2, h3⟩ := bodyA_ok h
    have hw := wrap_i64 (n := (p : Int) + 1) (by omega)
    have e1 : n ≤ w.size := by omega
    have e2 : p + 1 ≤ w.size := by omega
    have e3 : ((p : Int) + 1).toNat = p + 1 := by omega
    have e4 : (0 : Int) ≤ p + 1 := by omega
    have e5 : n + (w.size - (p + 1)) ≤ 9223372036854775807 := by omega
    have hm : min n w.size = n := Nat.min_eq_left e1
    rw [hp, h] at v
    simp only [ac_spec_CutMatched]
    simp [v, hw, e1, e2, e3, e4, e5, hm, h, hp]
  · simp [ac_spec_CutMatched, v, h]
end Go.Proofs.Ytlahdcofclkjjaa
