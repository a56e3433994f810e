/- Edits undone: the program's and the reference's; the law FnExactUndoTreeEdit, run. -/
import Derived.Test.YtlahdcofclkjjaaEditTrees
set_option linter.unusedVariables false
set_option linter.unusedSimpArgs false
set_option maxRecDepth 100000
namespace Go.Proofs.Ytlahdcofclkjjaa
open Aw

theorem cnt_none {P : Int → Bool} : ∀ {os cs : List Int}, cnt P os cs = 0 → ∀ (i : Nat) c, os[i]? = some (-2) → cs[i]? = some c → P c = false
  | [], cs, _, i, c, h, _ => by simp at h
  | o :: os, [], _, i, c, _, h => by simp at h
  | o :: os, d :: cs, h, 0, c, h1, h2 => by
    simp at h1 h2; subst h1; subst h2
    simp only [cnt] at h
    cases hp : P d with
    | false => rfl
    | true => rw [hp] at h; simp at h
  | o :: os, d :: cs, h, i + 1, c, h1, h2 => by
    have h' : cnt P os cs = 0 := by simp only [cnt] at h; omega
    exact cnt_none h' i c (by simpa using h1) (by simpa using h2)

/-- What is no call has its partner, if it has one, before it. -/
def PLow (cs : List Int) (s : Pst) : Prop := ∀ (i : Nat) p, s.1[i]? = some p → ∀ c, cs[i]? = some c → isCallB c = false → p ≤ i
def PCal (cs : List Int) (s : Pst) : Prop := ∀ p ∈ s.2, ∃ c, cs[p.toNat]? = some c ∧ isCallB c = true
theorem PLow.step {cs : List Int} {s : Pst} (hl : POk cs.length s) (hcal : PCal cs s) (h : PLow cs s) (c : Int) : PLow (cs ++ [c]) (pstep s c) ∧ PCal (cs ++ [c]) (pstep s c) := by
  have h1 := hl.len
  have keep : ∀ p ∈ s.2, ∃ d, (cs ++ [c])[p.toNat]? = some d ∧ isCallB d = true := fun p hp => by
    obtain ⟨d, hd, hb⟩ := hcal p hp
    exact ⟨d, by rw [List.getElem?_append_left (List.getElem?_eq_some_iff.1 hd).1]; exact hd, hb⟩
  have old : ∀ (i : Nat) q d, i < cs.length → s.1[i]? = some q → (cs ++ [c])[i]? = some d → isCallB d = false → q ≤ i := fun i q d hi hq hd hb => by
    rw [List.getElem?_append_left hi] at hd
    exact h i q hq d hd hb
  constructor
  · intro i p hp d hd hb
    have hil : i < cs.length + 1 := by have := (List.getElem?_eq_some_iff.1 hd).1; simp at this; omega
    unfold pstep at hp
    simp only at hp
    by_cases hi : i < cs.length
    · split at hp
      · rw [List.getElem?_append_left (by omega)] at hp; exact old i p d hi hp hd hb
      · split at hp
        · split at hp
          · rename_i q hq
            rw [List.getElem?_append_left (by simp; omega), List.getElem?_set] at hp
            split at hp
            · rename_i e
              obtain ⟨d', hd', hb'⟩ := keep q (List.mem_of_getLast? hq)
              rw [e, hd] at hd'
              injection hd' with hd'; subst hd'
              rw [hb] at hb'; cases hb'
            · exact old i p d hi hp hd hb
          · rw [List.getElem?_append_left (by omega)] at hp; exact old i p d hi hp hd hb
        · rw [List.getElem?_append_left (by omega)] at hp; exact old i p d hi hp hd hb
    · have e : i = cs.length := by omega
      subst e
      simp at hd; subst hd
      rw [if_neg (by simp [hb])] at hp
      split at hp
      · split at hp
        · rename_i q hq
          rw [List.getElem?_append_right (by simp; omega)] at hp
          simp [h1] at hp
          have := hl.mem q (List.mem_of_getLast? hq)
          omega
        · rw [List.getElem?_append_right (by omega)] at hp; simp [h1] at hp; omega
      · rw [List.getElem?_append_right (by omega)] at hp; simp [h1] at hp; omega
  · intro p hp
    unfold pstep at hp
    simp only at hp
    split at hp
    · rename_i c2
      rcases List.mem_append.1 hp with hp | hp
      · exact keep p hp
      · simp at hp; subst hp
        exact ⟨c, by simp [h1], c2⟩
    · split at hp
      · split at hp
        · exact keep p (List.dropLast_subset _ hp)
        · exact keep p hp
      · exact keep p hp
theorem pmatch_low (cs : List Int) : PLow cs (pmatch cs) := by
  have key : ∀ (suf pre : List Int) (s : Pst), POk pre.length s → PLow pre s → PCal pre s → PLow (pre ++ suf) (suf.foldl pstep s) := by
    intro suf
    induction suf with
    | nil => intro pre s _ h _; simpa using h
    | cons c suf ih =>
      intro pre s hl h hc
      have := ih (pre ++ [c]) _ (by simpa using hl.step c) (h.step hl hc c).1 (h.step hl hc c).2
      simpa using this
  have := key cs [] ([], []) ⟨rfl, by simp, by simp⟩ (fun i p h => by simp at h) (fun p h => by simp at h)
  simpa [pmatch] using this

/-- Where the factor at a place ends. -/
def nxt (w : ByteArray) (i : Nat) : Nat := if isCallB (bt w i) = true then (parAt w i).toNat + 1 else i + 1
theorem par_get {w : ByteArray} {i : Nat} (h : i < w.size) : (pmatch (wl w)).1[i]? = some (parAt w i) := by
  have hlen : (pmatch (wl w)).1.length = w.size := by rw [(pmatch_ok (wl w)).len]; simp
  unfold parAt
  rw [List.getD_eq_getElem?_getD, List.getElem?_eq_getElem (by omega)]; rfl
theorem nxt_ok {w : ByteArray} (hm : isM w = true) {i : Nat} (h : i < w.size) : i < nxt w i ∧ nxt w i ≤ w.size ∧ (isCallB (bt w i) = true → (i : Int) < parAt w i ∧ parAt w i < w.size ∧ i + 1 < nxt w i) := by
  have hc : (wl w)[i]? = some (bt w i) := by rw [bt_wl h]; exact List.getElem?_eq_getElem _
  unfold nxt
  cases hb : isCallB (bt w i) with
  | false => simp; omega
  | true =>
    have hi := (mmatch_cinv (wl w)).cal
    rw [(mmatch_pmatch (wl w)).1] at hi
    have hz : (mmatch (wl w)).cal.length = 0 := by have h := hm; unfold isM at h; have := of_decide_eq_true h; omega
    rw [hz] at hi
    have hn : parAt w i ≠ -2 := by
      intro e
      have := cnt_none hi.symm i _ (by rw [par_get h, e]) hc
      rw [hb] at this; cases this
    rcases pmatch_beh (wl w) i _ _ hc hb (par_get h) with h1 | h1
    · exact absurd h1 hn
    · simp at h1
      simp; omega
/-- The factors from a place on. -/
def facs (w : ByteArray) : Nat → Nat → List ByteArray
  | 0, _ => []
  | n + 1, i => if i < w.size then w.extract i (nxt w i) :: facs w n (nxt w i) else []
theorem facs_len (w : ByteArray) : ∀ n i, (facs w n i).length ≤ n
  | 0, _ => by simp [facs]
  | n + 1, i => by
    unfold facs; split
    · have := facs_len w n (nxt w i); simp; omega
    · simp

theorem lo_impl_factors (w : ByteArray) (hz : w.size ≤ 1048576) (hm : isM w = true) (par ret cal dep prn : List Int) (hp : par = (pmatch (wl w)).1) (ks : List KI) : ∀ (n i : Nat) (acc : List ByteArray), w.size ≤ i + n → i ≤ w.size → acc.length ≤ i →
    rE fns fa_impl_factors 0 (.code lo_impl_factors_0 :: .inBlock 0 :: ks) [(5, i64 i), (4, .ptr 0 0 0 0), (3, .own 1 0 0 acc.length), (0, str w)] [.row 5 [.agg [lst 1 par, lst 1 ret, lst 1 cal, lst 1 dep, lst 1 prn]] 0, .row 1 (acc.map Enc.pv) 0] =
      rE fns fa_impl_factors 0 ks [(3, .own 1 0 0 (acc ++ facs w n i).length)] [.row 5 [.agg [lst 1 par, lst 1 ret, lst 1 cal, lst 1 dep, lst 1 prn]] 0, .row 1 ((acc ++ facs w n i).map Enc.pv) 0] := by
  intro n
  induction n with
  | zero =>
    intro i acc h1 h2 h3
    have e : i = w.size := by omega
    subst e
    rw [l_impl_factors_0]
    simp [lb_impl_factors_0, facs]
  | succ n ih =>
    intro i acc h1 h2 h3
    rw [l_impl_factors_0]
    by_cases c : i < w.size
    · have hn := nxt_ok hm c
      have hlen : par.length = w.size := by rw [hp, (pmatch_ok (wl w)).len]; simp
      have c2 : i < par.length := by omega
      have hpa : par[i] = parAt w i := by
        have := par_get c
        rw [← hp, List.getElem?_eq_getElem c2] at this
        exact Option.some.inj this
      have hmax : max (i : Int) (parAt w i) = (nxt w i : Int) - 1 := by
        cases hb : isCallB (bt w i) with
        | true => have := hn.2.2 hb; simp [nxt, hb]; omega
        | false =>
          have : parAt w i ≤ i := by
            have := pmatch_low (wl w) i _ (par_get c)
            have hc : (wl w)[i]? = some (bt w i) := by rw [bt_wl c]; exact List.getElem?_eq_getElem _
            exact this _ hc hb
          simp [nxt, hb]; omega
      have hw := wrap_i64 (n := (nxt w i : Int) - 1 + 1) (by omega)
      have e1 : (nxt w i : Int) - 1 + 1 = nxt w i := by omega
      rw [e1] at hw
      have b1 : (acc.length + 1) * 16 ≤ 140737488355328 := by omega
      have b2 : i ≤ nxt w i := by omega
      have ih := ih (nxt w i) (acc ++ [w.extract i (nxt w i)]) (by omega) (by omega) (by simp; omega)
      simp at ih
      simp [lb_impl_factors_0, c, c2, hpa, hmax, e1, hw, b1, b2, hn.2.1, ih, facs]
    · have e : i = w.size := by omega
      subst e
      simp [lb_impl_factors_0, facs]
theorem ev_impl_factors (w : ByteArray) (hz : w.size ≤ 1048576) (hm : isM w = true) : ev fns i_impl_factors [str w] [] = some (lst 1 (facs w w.size 0), []) := by
  refine go_impl_factors (by simp) ?_
  have v := ev_impl_match w hz
  simp at v
  have lo := fun ks => lo_impl_factors w hz hm _ (mmatch (wl w)).ret (mmatch (wl w)).cal (mmatch (wl w)).dep (mmatch (wl w)).prn (mmatch_pmatch (wl w)).1 ks w.size 0 [] (by omega) (by omega) (by simp)
  simp at lo
  have b := facs_len w w.size 0
  simp [ac_impl_factors, v, lo, show (facs w w.size 0).length ≤ 140737488355328 by omega]
theorem lo_spec_l01Factors (w : ByteArray) (hz : w.size ≤ 1048576) (hm : isM w = true) (par : List Int) (hp : par = (pmatch (wl w)).1) (ks : List KI) : ∀ (n i : Nat) (acc : List ByteArray), w.size ≤ i + n → i ≤ w.size → acc.length ≤ i →
    rE fns fa_spec_l01Factors 0 (.code lo_spec_l01Factors_0 :: .inBlock 0 :: ks) [(5, i64 i), (4, .own 0 0 0 acc.length), (3, lst 1 par), (0, str w)] [.row 1 (acc.map Enc.pv) 0] =
      rE fns fa_spec_l01Factors 0 ks [(4, .own 0 0 0 (acc ++ facs w n i).length)] [.row 1 ((acc ++ facs w n i).map Enc.pv) 0] := by
  intro n
  induction n with
  | zero =>
    intro i acc h1 h2 h3
    have e : i = w.size := by omega
    subst e
    rw [l_spec_l01Factors_0]
    simp [lb_spec_l01Factors_0, facs]
  | succ n ih =>
    intro i acc h1 h2 h3
    rw [l_spec_l01Factors_0]
    by_cases c : i < w.size
    · have hn := nxt_ok hm c
      have hlen : par.length = w.size := by rw [hp, (pmatch_ok (wl w)).len]; simp
      have c2 : i < par.length := by omega
      have hpa : par[i] = parAt w i := by
        have := par_get c
        rw [← hp, List.getElem?_eq_getElem c2] at this
        exact Option.some.inj this
      have b1 : (acc.length + 1) * 16 ≤ 140737488355328 := by omega
      have b2 : i ≤ nxt w i := by omega
      have ih := ih (nxt w i) (acc ++ [w.extract i (nxt w i)]) (by omega) (by omega) (by simp; omega)
      have hw1 := wrap_i64 (n := (i : Int) + 1) (by omega)
      simp at ih
      cases hb : isCallB (bt w i) with
      | true =>
        have h4 := hn.2.2 hb
        have e1 : parAt w i + 1 = (nxt w i : Int) := by simp [nxt, hb]; omega
        have hw := wrap_i64 (n := (nxt w i : Int)) (by omega)
        simp [lb_spec_l01Factors_0, c, c2, hpa, hb, e1, hw, hw1, b1, b2, hn.2.1, ih, facs]
      | false =>
        have e1 : (i : Int) + 1 = (nxt w i : Int) := by simp [nxt, hb]
        have hw := wrap_i64 (n := (nxt w i : Int)) (by omega)
        simp [lb_spec_l01Factors_0, c, c2, hpa, hb, e1, hw, b1, b2, hn.2.1, ih, facs]
    · have e : i = w.size := by omega
      subst e
      simp [lb_spec_l01Factors_0, facs]
theorem ev_spec_l01Factors (w : ByteArray) (hz : w.size ≤ 1048576) (hm : isM w = true) : ev fns i_spec_l01Factors [str w] [] = some (lst 1 (facs w w.size 0), []) := by
  refine go_spec_l01Factors (by simp) ?_
  have v := ev_spec_l01Partners w hz
  simp at v
  have lo := fun ks => lo_spec_l01Factors w hz hm _ rfl ks w.size 0 [] (by omega) (by omega) (by simp)
  simp at lo
  have b := facs_len w w.size 0
  simp [ac_spec_l01Factors, v, lo, show (facs w w.size 0).length ≤ 140737488355328 by omega]

/-- A matched word that is one factor, and a call's. -/
theorem facs_nil (w : ByteArray) : facs w w.size 0 = [] ↔ w.size = 0 := by
  cases h : w.size with
  | zero => simp [facs]
  | succ n => unfold facs; simp [h]
theorem facs_one {w : ByteArray} (hm : isM w = true) (h0 : 0 < w.size) : ((facs w w.size 0).length = 1 ∧ isCallB (bt w 0) = true) ↔ ¬ (w.size = 1 ∨ (facs w w.size 0).length ≠ 1) := by
  have hn := nxt_ok hm h0
  obtain ⟨n, hs⟩ : ∃ n, w.size = n + 1 := ⟨w.size - 1, by omega⟩
  have hf : (facs w w.size 0).length = 1 ↔ w.size = nxt w 0 := by
    rw [hs]
    unfold facs
    rw [if_pos h0]
    simp only [List.length_cons]
    constructor
    · intro h
      have h1 : facs w n (nxt w 0) = [] := List.eq_nil_of_length_eq_zero (by omega)
      cases n with
      | zero => omega
      | succ m =>
        unfold facs at h1
        split at h1
        · cases h1
        · omega
    · intro h
      have h1 : facs w n (nxt w 0) = [] := by
        cases n with
        | zero => rfl
        | succ m => unfold facs; rw [if_neg (by omega)]
      simp [h1]
  rw [hf]
  constructor
  · rintro ⟨h1, h2⟩ h3
    have := hn.2.2 h2
    omega
  · intro h
    have h1 : w.size = nxt w 0 := by omega
    refine ⟨h1, ?_⟩
    cases hb : isCallB (bt w 0) with
    | true => rfl
    | false => 
      have hb' : ¬ isCallB (bt w ((0 : Nat) : Int)) = true := by rw [show ((0 : Nat) : Int) = 0 from rfl, hb]; simp
      exact absurd (.inl (by rw [h1]; unfold nxt; rw [if_neg hb'])) h

abbrev zE : GTreeEdit := ⟨0, 0, 0, emp⟩
def bothA (w : ByteArray) (e : GTreeEdit) : ByteArray := w.extract e.at_.toNat (e.at_.toNat + 1) ++ w.extract (bodyA w e.at_).1.toNat ((bodyA w e.at_).1.toNat + 1)
def undoA (w : ByteArray) (e : GTreeEdit) : GTreeEdit × Int :=
  if okWord w = true ∧ okEdit e = true then
    if (madeA w e).2 = 0 then
      if e.kind = 1 then
        if e.text.size = 0 then (⟨1, e.at_, 0, emp⟩, 0)
        else if (facs e.text e.text.size 0).length = 1 ∧ isCallB (bt e.text 0) = true then (⟨2, e.at_, 0, emp⟩, 0) else (zE, 4)
      else if e.kind = 4 then (⟨3, e.at_, 0, emp⟩, 0)
      else if e.kind = 2 then (⟨1, e.at_, 0, w.extract e.at_.toNat ((bodyA w e.at_).1.toNat + 1)⟩, 0)
      else if e.kind = 3 then (⟨4, e.at_, (bodyA w e.at_).1 - 1, bothA w e⟩, 0)
      else (⟨5, e.at_, 0, bothA w e⟩, 0)
    else (zE, (madeA w e).2)
  else (zE, 1)
theorem made_body {w : ByteArray} {e : GTreeEdit} (h1 : e.kind ≠ 1) (h4 : e.kind ≠ 4) (h : (madeA w e).2 = 0) : (bodyA w e.at_).2 = 0 := by
  unfold madeA at h
  rw [if_neg h1] at h
  by_cases h2 : e.kind = 2
  · rw [if_pos h2] at h
    unfold cutA at h
    by_cases hb : (bodyA w e.at_).2 = 0
    · exact hb
    · rw [if_neg hb] at h; simp at h; exact h
  · rw [if_neg h2, if_neg h4] at h
    by_cases hb : (bodyA w e.at_).2 = 0
    · exact hb
    · rw [if_neg hb] at h; simp at h; exact h
theorem ev_impl_UndoTreeEdit (w : ByteArray) (e : GTreeEdit) (hw : w.size ≤ 1048576) (hz : e.text.size ≤ 1048576) : ev fns i_impl_UndoTreeEdit [str w, e.v] [] = some (.tup [(undoA w e).1.v, i64 (undoA w e).2], []) := by
  refine go_impl_UndoTreeEdit (by simp) ?_
  have v1 := ev_impl_EditTree w e hw hz
  simp at v1
  unfold undoA
  unfold editA at v1
  by_cases c1 : okWord w = true ∧ okEdit e = true
  rotate_left
  · rw [if_neg c1] at v1 ⊢
    simp at v1
    simp [ac_impl_UndoTreeEdit, v1, setCells]
  rw [if_pos c1] at v1 ⊢
  by_cases c2 : (madeA w e).2 = 0
  rotate_left
  · rw [if_neg c2]
    simp [ac_impl_UndoTreeEdit, v1, c2, setCells]
  rw [if_pos c2]
  rw [c2] at v1
  have he := c1.2
  simp only [okEdit, Bool.and_eq_true] at he
  obtain ⟨⟨⟨⟨h1, h2⟩, h3⟩, h4⟩, h5⟩ := he
  have bod : e.kind ≠ 1 → e.kind ≠ 4 → (bodyA w e.at_).2 = 0 := fun q1 q4 => made_body q1 q4 c2
  have v3 := ev_impl_bodyAt w e.at_ hw
  unfold bothA
  obtain ⟨kind, at_, to, text⟩ := e
  simp only at *
  rcases kind_cases h1 with rfl | rfl | rfl | rfl | rfl
  · simp at h5
    have v2 := ev_impl_factors text hz h5.2
    simp at v2
    by_cases c3 : text.size = 0
    · have := show facs text 0 0 = [] from rfl
      simp [ac_impl_UndoTreeEdit, v1, v2, c3, this, setCells]
    · have c3' : facs text text.size 0 ≠ [] := fun h => c3 ((facs_nil text).1 h)
      have c3'' : 0 < text.size := by omega
      by_cases c4 : (facs text text.size 0).length = 1
      · cases c5 : isCallB (bt text 0) <;> simp [ac_impl_UndoTreeEdit, v1, v2, c3, c3', c3'', c4, c5, setCells]
      · have c4i : ¬ (((facs text text.size 0).length : Int) = 1) := by omega
        simp [ac_impl_UndoTreeEdit, v1, v2, c3, c3', c4, c4i, setCells]
  · obtain ⟨n, p, rfl, hp, g1, g2, g3⟩ := bodyA_ok (bod (by decide) (by decide))
    have hb := bod (by decide) (by decide)
    rw [hp, hb] at v3
    simp at v3
    have w1 := wrap_i64 (n := (n : Int) + 1) (by omega)
    have w2 := wrap_i64 (n := (p : Int) + 1) (by omega)
    have x1 : n + 1 ≤ w.size := by omega
    have x2 : p + 1 ≤ w.size := by omega
    have x3 : n ≤ p + 1 := by omega
    have x4 : ((n : Int) + 1).toNat = n + 1 := by omega
    have x5 : ((p : Int) + 1).toNat = p + 1 := by omega
    have x6 : (0 : Int) ≤ (n : Int) + 1 := by omega
    have x7 : (0 : Int) ≤ (p : Int) + 1 := by omega
    have x8 : (n : Int) ≤ p + 1 := by omega
    simp [ac_impl_UndoTreeEdit, v1, v3, hp, w1, w2, x1, x2, x3, x4, x5, x6, x7, x8, setCells]
  · obtain ⟨n, p, rfl, hp, g1, g2, g3⟩ := bodyA_ok (bod (by decide) (by decide))
    have hb := bod (by decide) (by decide)
    rw [hp, hb] at v3
    simp at v3
    have w1 := wrap_i64 (n := (n : Int) + 1) (by omega)
    have w2 := wrap_i64 (n := (p : Int) + 1) (by omega)
    have w3 := wrap_i64 (n := (p : Int) - 1) (by omega)
    have x1 : n + 1 ≤ w.size := by omega
    have x2 : p + 1 ≤ w.size := by omega
    have x3 : n ≤ p + 1 := by omega
    have x4 : ((n : Int) + 1).toNat = n + 1 := by omega
    have x5 : ((p : Int) + 1).toNat = p + 1 := by omega
    have x6 : (0 : Int) ≤ (n : Int) + 1 := by omega
    have x7 : (0 : Int) ≤ (p : Int) + 1 := by omega
    have x8 : (n : Int) ≤ p + 1 := by omega
    simp [ac_impl_UndoTreeEdit, v1, v3, hp, w1, w2, w3, x1, x2, x3, x4, x5, x6, x7, x8, setCells]
  · simp [ac_impl_UndoTreeEdit, v1, setCells]
  · obtain ⟨n, p, rfl, hp, g1, g2, g3⟩ := bodyA_ok (bod (by decide) (by decide))
    have hb := bod (by decide) (by decide)
    rw [hp, hb] at v3
    simp at v3
    have w1 := wrap_i64 (n := (n : Int) + 1) (by omega)
    have w2 := wrap_i64 (n := (p : Int) + 1) (by omega)
    have x1 : n + 1 ≤ w.size := by omega
    have x2 : p + 1 ≤ w.size := by omega
    have x3 : n ≤ p + 1 := by omega
    have x4 : ((n : Int) + 1).toNat = n + 1 := by omega
    have x5 : ((p : Int) + 1).toNat = p + 1 := by omega
    have x6 : (0 : Int) ≤ (n : Int) + 1 := by omega
    have x7 : (0 : Int) ≤ (p : Int) + 1 := by omega
    have x8 : (n : Int) ≤ p + 1 := by omega
    simp [ac_impl_UndoTreeEdit, v1, v3, hp, w1, w2, x1, x2, x3, x4, x5, x6, x7, x8, setCells]
theorem ev_spec_UndoTreeEdit (w : ByteArray) (e : GTreeEdit) (hw : w.size ≤ 1048576) (hz : e.text.size ≤ 1048576) : ev fns i_spec_UndoTreeEdit [str w, e.v] [] = some (.tup [(undoA w e).1.v, i64 (undoA w e).2], []) := by
  refine go_spec_UndoTreeEdit (by simp) ?_
  have v1 := ev_spec_l06Given w e hw hz
  simp at v1
  unfold undoA
  by_cases c1 : okWord w = true ∧ okEdit e = true
  rotate_left
  · rw [if_neg c1] at v1 ⊢
    simp [ac_spec_UndoTreeEdit, v1, setCells]
  rw [if_pos c1] at v1 ⊢
  have v4 := ev_spec_l06Made w e c1.1 c1.2 hz
  simp at v4
  by_cases c2 : (madeA w e).2 = 0
  rotate_left
  · rw [if_neg c2]
    simp [ac_spec_UndoTreeEdit, v1, v4, c2, setCells]
  rw [if_pos c2]
  rw [c2] at v4
  have he := c1.2
  simp only [okEdit, Bool.and_eq_true] at he
  obtain ⟨⟨⟨⟨h1, h2⟩, h3⟩, h4⟩, h5⟩ := he
  have bod : e.kind ≠ 1 → e.kind ≠ 4 → (bodyA w e.at_).2 = 0 := fun q1 q4 => made_body q1 q4 c2
  have v3 := ev_spec_l01Partners w hw
  simp at v3
  have hlen : (pmatch (wl w)).1.length = w.size := by rw [(pmatch_ok (wl w)).len]; simp
  unfold bothA
  obtain ⟨kind, at_, to, text⟩ := e
  simp only at *
  rcases kind_cases h1 with rfl | rfl | rfl | rfl | rfl
  · simp at h5
    have v2 := ev_spec_l01Factors text hz h5.2
    simp at v2
    by_cases c3 : text.size = 0
    · have c3' : text = ⟨#[]⟩ := by
        have : text.data.size = 0 := c3
        cases text with | mk d => simp at this; rw [this]
      subst c3'
      simp [ac_spec_UndoTreeEdit, v1, v4, c3, setCells]
    · have c3' : text ≠ ⟨#[]⟩ := fun h => c3 (by rw [h]; rfl)
      have c3'' : 0 < text.size := by omega
      have hone := facs_one h5.2 c3''
      by_cases c4 : text.size = 1
      · have hno : ¬ ((facs text text.size 0).length = 1 ∧ isCallB (bt text 0) = true) := by rw [hone]; exact fun h => h (.inl c4)
        rw [if_neg hno]
        have c4i : ((text.size : Int) = 1) = True := eq_true (by omega)
        simp [ac_spec_UndoTreeEdit, v1, v4, c3, c3', c4i, setCells]
      · by_cases c5 : (facs text text.size 0).length = 1
        · have hyes : ((facs text text.size 0).length = 1 ∧ isCallB (bt text 0) = true) := by rw [hone]; intro h; rcases h with h | h; exact c4 h; exact h c5
          rw [if_pos hyes]
          have c4i : ¬ ((text.size : Int) = 1) := by omega
          simp [ac_spec_UndoTreeEdit, v1, v4, v2, c3, c3', c4i, c5, setCells]
        · have c4i : ¬ ((text.size : Int) = 1) := by omega
          have c5i : ¬ (((facs text text.size 0).length : Int) = 1) := by omega
          simp [ac_spec_UndoTreeEdit, v1, v4, v2, c3, c3', c4i, c5i, c5, setCells]
  · obtain ⟨n, p, rfl, hp, g1, g2, g3⟩ := bodyA_ok (bod (by decide) (by decide))
    have hb := bod (by decide) (by decide)
    have x9 : n < (pmatch (wl w)).1.length := by omega
    have x10 : n < w.size := by omega
    have y1 : (pmatch (wl w)).1[n] = (p : Int) := by
      have h := par_get (w := w) (i := n) (by omega)
      rw [List.getElem?_eq_getElem x9] at h
      rw [Option.some.inj h, ← hp]
      simp only [bodyA, g3, if_true] at hb ⊢
      by_cases q : inR (n : Int) 0 ((w.size : Int) - 1) = true
      · rw [if_pos q] at hb ⊢
        by_cases q2 : isCallB (bt w n) = true ∧ 0 ≤ parAt w (n : Int).toNat
        · rw [if_pos q2]; rfl
        · rw [if_neg q2] at hb; simp at hb
      · rw [if_neg q] at hb; simp at hb
    have y2 : (pmatch (wl w)).1[n]? = some (p : Int) := by rw [List.getElem?_eq_getElem x9, y1]
    have w1 := wrap_i64 (n := (n : Int) + 1) (by omega)
    have w2 := wrap_i64 (n := (p : Int) + 1) (by omega)
    have x1 : n + 1 ≤ w.size := by omega
    have x2 : p + 1 ≤ w.size := by omega
    have x3 : n ≤ p + 1 := by omega
    have x4 : ((n : Int) + 1).toNat = n + 1 := by omega
    have x5 : ((p : Int) + 1).toNat = p + 1 := by omega
    have x6 : (0 : Int) ≤ (n : Int) + 1 := by omega
    have x7 : (0 : Int) ≤ (p : Int) + 1 := by omega
    have x8 : (n : Int) ≤ p + 1 := by omega
    simp [ac_spec_UndoTreeEdit, v1, v4, v3, hlen, y1, y2, x9, x10, hp, w1, w2, x1, x2, x3, x4, x5, x6, x7, x8, setCells]
  · obtain ⟨n, p, rfl, hp, g1, g2, g3⟩ := bodyA_ok (bod (by decide) (by decide))
    have hb := bod (by decide) (by decide)
    have x9 : n < (pmatch (wl w)).1.length := by omega
    have x10 : n < w.size := by omega
    have y1 : (pmatch (wl w)).1[n] = (p : Int) := by
      have h := par_get (w := w) (i := n) (by omega)
      rw [List.getElem?_eq_getElem x9] at h
      rw [Option.some.inj h, ← hp]
      simp only [bodyA, g3, if_true] at hb ⊢
      by_cases q : inR (n : Int) 0 ((w.size : Int) - 1) = true
      · rw [if_pos q] at hb ⊢
        by_cases q2 : isCallB (bt w n) = true ∧ 0 ≤ parAt w (n : Int).toNat
        · rw [if_pos q2]; rfl
        · rw [if_neg q2] at hb; simp at hb
      · rw [if_neg q] at hb; simp at hb
    have y2 : (pmatch (wl w)).1[n]? = some (p : Int) := by rw [List.getElem?_eq_getElem x9, y1]
    have w1 := wrap_i64 (n := (n : Int) + 1) (by omega)
    have w2 := wrap_i64 (n := (p : Int) + 1) (by omega)
    have w3 := wrap_i64 (n := (p : Int) - 1) (by omega)
    have x1 : n + 1 ≤ w.size := by omega
    have x2 : p + 1 ≤ w.size := by omega
    have x3 : n ≤ p + 1 := by omega
    have x4 : ((n : Int) + 1).toNat = n + 1 := by omega
    have x5 : ((p : Int) + 1).toNat = p + 1 := by omega
    have x6 : (0 : Int) ≤ (n : Int) + 1 := by omega
    have x7 : (0 : Int) ≤ (p : Int) + 1 := by omega
    have x8 : (n : Int) ≤ p + 1 := by omega
    simp [ac_spec_UndoTreeEdit, v1, v4, v3, hlen, y1, y2, x9, x10, hp, w1, w2, w3, x1, x2, x3, x4, x5, x6, x7, x8, setCells]
  · simp [ac_spec_UndoTreeEdit, v1, v4, setCells]
  · obtain ⟨n, p, rfl, hp, g1, g2, g3⟩ := bodyA_ok (bod (by decide) (by decide))
    have hb := bod (by decide) (by decide)
    have x9 : n < (pmatch (wl w)).1.length := by omega
    have x10 : n < w.size := by omega
    have y1 : (pmatch (wl w)).1[n] = (p : Int) := by
      have h := par_get (w := w) (i := n) (by omega)
      rw [List.getElem?_eq_getElem x9] at h
      rw [Option.some.inj h, ← hp]
      simp only [bodyA, g3, if_true] at hb ⊢
      by_cases q : inR (n : Int) 0 ((w.size : Int) - 1) = true
      · rw [if_pos q] at hb ⊢
        by_cases q2 : isCallB (bt w n) = true ∧ 0 ≤ parAt w (n : Int).toNat
        · rw [if_pos q2]; rfl
        · rw [if_neg q2] at hb; simp at hb
      · rw [if_neg q] at hb; simp at hb
    have y2 : (pmatch (wl w)).1[n]? = some (p : Int) := by rw [List.getElem?_eq_getElem x9, y1]
    have w1 := wrap_i64 (n := (n : Int) + 1) (by omega)
    have w2 := wrap_i64 (n := (p : Int) + 1) (by omega)
    have x1 : n + 1 ≤ w.size := by omega
    have x2 : p + 1 ≤ w.size := by omega
    have x3 : n ≤ p + 1 := by omega
    have x4 : ((n : Int) + 1).toNat = n + 1 := by omega
    have x5 : ((p : Int) + 1).toNat = p + 1 := by omega
    have x6 : (0 : Int) ≤ (n : Int) + 1 := by omega
    have x7 : (0 : Int) ≤ (p : Int) + 1 := by omega
    have x8 : (n : Int) ≤ p + 1 := by omega
    simp [ac_spec_UndoTreeEdit, v1, v4, v3, hlen, y1, y2, x9, x10, hp, w1, w2, x1, x2, x3, x4, x5, x6, x7, x8, setCells]
theorem undo_size (w : ByteArray) (e : GTreeEdit) (hw : w.size ≤ 1048576) (hz : e.text.size ≤ 1048576) : (undoA w e).1.text.size ≤ 1048576 := by
  have he : emp.size = 0 := rfl
  unfold undoA bothA
  repeat' split
  all_goals simp
  all_goals omega
theorem ev_FnExactUndoTreeEdit (w : ByteArray) (a : GTreeEdit) (fw : Siz.fits w) (fa : Siz.fits a) : ev fns i_laws_FnExactUndoTreeEdit [str w, a.v] [] = some (bol true, []) := by
  refine go_laws_FnExactUndoTreeEdit (by simp) ?_
  by_cases hw : w.size ≤ 1048576
  rotate_left
  · simp [ac_laws_FnExactUndoTreeEdit, show ((1048576 : Int) < w.size) by omega]
  have e1 := ev_laws_szTreeEdit a 1048576 (by omega) (by omega) fa
  rw [size_TreeEdit, size_str] at e1
  by_cases c1 : (a.text.size : Int) ≤ 1048576
  · rw [szR_ok c1] at e1
    have h1 := ev_laws_toTreeEdit a (by rw [size_TreeEdit, size_str]; omega)
    have h3 := ev_spec_UndoTreeEdit w a hw (by omega)
    have h4 := ev_impl_UndoTreeEdit w a hw (by omega)
    have h5 := ev_laws_eqTreeEdit (undoA w a).1 (undoA w a).1 (by
      rw [size_TreeEdit, size_str]
      have := undo_size w a hw (by omega)
      omega)
    simp at e1 h1 h3 h4 h5
    simp [ac_laws_FnExactUndoTreeEdit, e1, show ¬ ((1048576 : Int) < w.size) by omega, show ¬ ((1048576 : Int) - a.text.size < 0) by omega, h1, h3, h4, h5, setCells]
  · rw [szR_no (by omega)] at e1
    simp at e1
    simp [ac_laws_FnExactUndoTreeEdit, e1, show ¬ ((1048576 : Int) < w.size) by omega]
end Go.Proofs.Ytlahdcofclkjjaa
