/- Edits of words: the program's and the reference's; the law FnExactEditTree, run. -/
import Derived.Test.YtlahdcofclkjjaaWord3
import Derived.Test.YtlahdcofclkjjaaTreeEdit
set_option linter.unusedVariables false
set_option linter.unusedSimpArgs false
set_option maxRecDepth 100000
namespace Go.Proofs.Ytlahdcofclkjjaa
open Aw

theorem okWord_of {x : ByteArray} (h : allSym (wl x) = true) : okWord x = decide (x.size ≤ 60) := by rw [okWord_eq, h, Bool.true_and]
theorem allSym_cut' {w : ByteArray} (h : okWord w = true) (i j : Nat) : allSym (wl (w.extract i j)) = true := by rw [wl_extract]; exact allSym_cut (okWord_sym h) i j
theorem emp_size : (⟨#[]⟩ : ByteArray).size = 0 := rfl
theorem brk_size {t : ByteArray} (h : isBrk t = true) : t.size = 2 := isBrk_size h
theorem brk_sym {t : ByteArray} (h : isBrk t = true) : allSym (wl t) = true := by
  have hs := isBrk_size h
  simp [isBrk] at h
  unfold allSym
  rw [List.all_eq_true]
  intro c hc
  obtain ⟨i, hi, rfl⟩ := List.mem_iff_getElem.1 hc
  have hi' : i < t.size := by simpa using hi
  rw [← bt_wl hi']
  have : i = 0 ∨ i = 1 := by omega
  rcases this with rfl | rfl
  · have := h.1.2
    simp [isCallB] at this
    rcases this with e | e <;> (simp at e ⊢; rw [e]; decide)
  · have := h.2
    simp [isRetB] at this
    rcases this with e | e <;> (simp at e ⊢; rw [e]; decide)

def putA (w : ByteArray) (i : Int) (u : ByteArray) : ByteArray × Int :=
  if okWord w = true ∧ okWord u = true then
    if inR i 0 w.size = true then
      if isM u = true then orLim (w.extract 0 i.toNat ++ u ++ w.extract i.toNat w.size) else (emp, 4)
    else (emp, 2)
  else (emp, 1)
@[simp] theorem ev_impl_PutAt (w : ByteArray) (i : Int) (u : ByteArray) (hz : w.size ≤ 1048576) (hu : u.size ≤ 1048576) : ev fns i_impl_PutAt [str w, i64 i, str u] [] = some (.tup [str (putA w i u).1, i64 (putA w i u).2], []) := by
  refine go_impl_PutAt (by simp) ?_
  have v1 := ev_impl_ValidWord w (by omega)
  have v2 := ev_impl_ValidWord u (by omega)
  have v3 := ev_impl_isMatched u hu
  simp at v1 v2 v3
  unfold putA
  cases h1 : okWord w
  · simp [h1] at v1; simp [ac_impl_PutAt, v1]
  · simp [h1] at v1
    cases h2 : okWord u
    · simp [h2] at v2; simp [ac_impl_PutAt, v1, v2]
    · simp [h2] at v2
      cases h3 : inR i 0 w.size
      · simp [ac_impl_PutAt, v1, v2, h3]
      · have h3' := h3
        simp [inR] at h3'
        obtain ⟨n, rfl⟩ := Int.eq_ofNat_of_zero_le h3'.1
        have hn : n ≤ w.size := by omega
        have hm : min n w.size = n := Nat.min_eq_left hn
        have b1 : n + u.size ≤ 9223372036854775807 := by omega
        have b2 : n + u.size + (w.size - n) ≤ 9223372036854775807 := by omega
        cases h4 : isM u
        · simp [h4] at v3; simp [ac_impl_PutAt, v1, v2, v3, h3]
        · simp [h4] at v3
          have v5 := ev_impl_orLimit (w.extract 0 n ++ u ++ w.extract n w.size) (by simp; omega)
          simp at v5
          simp [ac_impl_PutAt, v1, v2, v3, h3, hn, hm, b1, b2, v5]
@[simp] theorem ev_spec_PutAt (w : ByteArray) (i : Int) (u : ByteArray) (hz : w.size ≤ 1048576) (hu : u.size ≤ 1048576) : ev fns i_spec_PutAt [str w, i64 i, str u] [] = some (.tup [str (putA w i u).1, i64 (putA w i u).2], []) := by
  refine go_spec_PutAt (by simp) ?_
  have v1 := ev_spec_l01Ok w (by omega)
  have v2 := ev_spec_l01Ok u (by omega)
  have v3 := ev_spec_l01Matched u hu
  simp at v1 v2 v3
  unfold putA
  cases h1 : okWord w
  · simp [h1] at v1; simp [ac_spec_PutAt, v1]
  · simp [h1] at v1
    cases h2 : okWord u
    · simp [h2] at v2; simp [ac_spec_PutAt, v1, v2]
    · simp [h2] at v2
      cases h3 : inR i 0 w.size
      · simp [ac_spec_PutAt, v1, v2, h3]
      · have h3' := h3
        simp [inR] at h3'
        obtain ⟨n, rfl⟩ := Int.eq_ofNat_of_zero_le h3'.1
        have hn : n ≤ w.size := by omega
        have hm : min n w.size = n := Nat.min_eq_left hn
        have b1 : n + u.size ≤ 9223372036854775807 := by omega
        have b2 : n + u.size + (w.size - n) ≤ 9223372036854775807 := by omega
        cases h4 : isM u
        · simp [h4] at v3; simp [ac_spec_PutAt, v1, v2, v3, h3]
        · simp [h4] at v3
          have v5 := ev_spec_l01Told (w.extract 0 n ++ u ++ w.extract n w.size) (by
            rw [wl_append, wl_append, allSym_append, allSym_append, allSym_cut' h1, allSym_cut' h1, okWord_sym h2]; rfl)
          simp at v5
          simp [ac_spec_PutAt, v1, v2, v3, h3, hn, hm, b1, b2, v5]

theorem app_emp (a : ByteArray) : a ++ (⟨#[]⟩ : ByteArray) = a := by
  rw [show (⟨#[]⟩ : ByteArray) = ByteArray.empty from rfl]; simp
/-- What a name's edit puts in front and behind. -/
def frA (e : GTreeEdit) : ByteArray := if e.kind = 5 then e.text.extract 0 1 else emp
def bkA (e : GTreeEdit) : ByteArray := if e.kind = 5 then e.text.extract 1 e.text.size else emp
def madeA (w : ByteArray) (e : GTreeEdit) : ByteArray × Int :=
  if e.kind = 1 then putA w e.at_ e.text
  else if e.kind = 2 then cutA w e.at_
  else if e.kind = 4 then
    if e.at_ ≤ e.to ∧ e.to ≤ w.size then
      if isM (w.extract e.at_.toNat e.to.toNat) = true then
        orLim (w.extract 0 e.at_.toNat ++ e.text.extract 0 1 ++ w.extract e.at_.toNat e.to.toNat ++ e.text.extract 1 e.text.size ++ w.extract e.to.toNat w.size)
      else (emp, 4)
    else (emp, 2)
  else if (bodyA w e.at_).2 = 0 then
    (w.extract 0 e.at_.toNat ++ frA e ++ w.extract (e.at_.toNat + 1) (bodyA w e.at_).1.toNat ++ bkA e ++ w.extract ((bodyA w e.at_).1.toNat + 1) w.size, 0)
  else (emp, (bodyA w e.at_).2)

set_option maxHeartbeats 2000000 in
theorem ev_impl_editTree (w : ByteArray) (e : GTreeEdit) (hw : okWord w = true) (he : okEdit e = true) (hz : e.text.size ≤ 1048576) : ev fns i_impl_editTree [str w, e.v] [] = some (.tup [str (madeA w e).1, i64 (madeA w e).2], []) := by
  refine go_impl_editTree (by simp) ?_
  obtain ⟨kind, at_, to, text⟩ := e
  simp only at hz
  have hs := okWord_size hw
  unfold madeA
  simp only [okEdit, Bool.and_eq_true] at he
  obtain ⟨⟨⟨⟨h1, h2⟩, h3⟩, h4⟩, h5⟩ := he
  have v1 := ev_impl_PutAt w at_ text (by omega) hz
  have v2 := ev_impl_CutMatched w at_ (by omega)
  have v3 := ev_impl_bodyAt w at_ (by omega)
  simp at v1 v2 v3
  simp [inR] at h2 h3
  obtain ⟨i, rfl⟩ := Int.eq_ofNat_of_zero_le h2.1
  obtain ⟨j, rfl⟩ := Int.eq_ofNat_of_zero_le h3.1
  rcases kind_cases h1 with rfl | rfl | rfl | rfl | rfl
  · simp [ac_impl_editTree, v1]
  · simp [ac_impl_editTree, v2]
  · by_cases hb : (bodyA w i).2 = 0
    · obtain ⟨n, p, en, hp, g1, g2, g3⟩ := bodyA_ok hb
      obtain rfl : i = n := by omega
      have hm : min i w.size = i := Nat.min_eq_left (by omega)
      have x0 : i ≤ w.size := by omega
      have x1 : i + 1 ≤ p := by omega
      have x2 : p ≤ w.size := by omega
      have x3 : p + 1 ≤ w.size := by omega
      have x4 : ((i : Int) + 1).toNat = i + 1 := by omega
      have x5 : ((p : Int) + 1).toNat = p + 1 := by omega
      have x6 : (0 : Int) ≤ (i : Int) + 1 := by omega
      have x7 : (0 : Int) ≤ (p : Int) + 1 := by omega
      have x8 : (i : Int) + 1 ≤ p := by omega
      have x9 : min p w.size = p := Nat.min_eq_left (by omega)
      have y1 : i + (p - (i + 1)) ≤ 9223372036854775807 := by omega
      have y2 : i + (p - (i + 1)) + (w.size - (p + 1)) ≤ 9223372036854775807 := by omega
      have y3 : i + 1 + (p - (i + 1)) ≤ 9223372036854775807 := by omega
      have y4 : i + 1 + (p - (i + 1)) + 1 ≤ 9223372036854775807 := by omega
      have y5 : i + 1 + (p - (i + 1)) + 1 + (w.size - (p + 1)) ≤ 9223372036854775807 := by omega
      have y6 : i + 1 ≤ 9223372036854775807 := by omega
      have y7 : i ≤ 9223372036854775807 := by omega
      have y8 : p ≤ 9223372036854775807 := by omega
      have y9 : p + 1 ≤ 9223372036854775807 := by omega
      have z1 : p + 1 + (w.size - (p + 1)) ≤ 9223372036854775807 := by omega
      have z2 : w.size ≤ 9223372036854775807 := by omega
      have z0 : ¬ ((p : Int) < 0) := by omega
      have w1 := wrap_i64 (n := (i : Int) + 1) (by omega)
      have w2 := wrap_i64 (n := (p : Int) + 1) (by omega)
      rw [hp, hb] at v3
      simp [ac_impl_editTree, v3, hb, hp, frA, bkA, app_emp, hm, w1, w2, x0, x1, x2, x3, x4, x5, x6, x7, x8, x9, y1, y2, y3, y4, y5, y6, y7, y8, y9, z0, z1, z2, emp_size]
    · simp [ac_impl_editTree, v3, hb]
  · simp at h5
    have hts := isBrk_size h5
    by_cases hr : (i : Int) ≤ j ∧ (j : Int) ≤ w.size
    · have x0 : i ≤ w.size := by omega
      have x1 : i ≤ j := by omega
      have x2 : j ≤ w.size := by omega
      have x3 : ¬ (w.size < j) := by omega
      have x4 : ¬ (w.size < i) := by omega
      have x5 : ¬ (j < i) := by omega
      have x6 : min i w.size = i := Nat.min_eq_left (by omega)
      have x7 : min j w.size = j := Nat.min_eq_left (by omega)
      have y1 : i + 1 ≤ 9223372036854775807 := by omega
      have y2 : i + 1 + (j - i) ≤ 9223372036854775807 := by omega
      have y3 : i + 1 + (j - i) + 1 ≤ 9223372036854775807 := by omega
      have y4 : i + 1 + (j - i) + 1 + (w.size - j) ≤ 9223372036854775807 := by omega
      have v4 := ev_impl_isMatched (w.extract i j) (by simp; omega)
      simp at v4
      have hin : inR i 0 j = true := by simp [inR]; omega
      cases hm : isM (w.extract i j)
      · simp [hm] at v4
        simp [ac_impl_editTree, hin, v4, hm, x0, x1, x2, x3, x4, x5, x6, x7, y1, y2, y3, y4]
      · simp [hm] at v4
        have v5 := ev_impl_orLimit (w.extract 0 i ++ text.extract 0 1 ++ w.extract i j ++ text.extract 1 text.size ++ w.extract j w.size) (by simp; omega)
        simp at v5
        rw [hts] at v5 ⊢
        simp [ac_impl_editTree, hin, v4, hm, v5, hts, x0, x1, x2, x3, x4, x5, x6, x7, y1, y2, y3, y4]
    · have hrn : ¬ (i ≤ j ∧ j ≤ w.size) := by omega
      cases hin : inR (i : Int) 0 j
      · simp [ac_impl_editTree, hrn, hin]
      · simp [inR] at hin
        have c : w.size < j := by omega
        simp [ac_impl_editTree, hrn, show inR (i : Int) 0 j = true by simp [inR]; omega, c]
  · simp at h5
    have hts := isBrk_size h5
    by_cases hb : (bodyA w i).2 = 0
    · obtain ⟨n, p, en, hp, g1, g2, g3⟩ := bodyA_ok hb
      obtain rfl : i = n := by omega
      have hm : min i w.size = i := Nat.min_eq_left (by omega)
      have x0 : i ≤ w.size := by omega
      have x1 : i + 1 ≤ p := by omega
      have x2 : p ≤ w.size := by omega
      have x3 : p + 1 ≤ w.size := by omega
      have x4 : ((i : Int) + 1).toNat = i + 1 := by omega
      have x5 : ((p : Int) + 1).toNat = p + 1 := by omega
      have x6 : (0 : Int) ≤ (i : Int) + 1 := by omega
      have x7 : (0 : Int) ≤ (p : Int) + 1 := by omega
      have x8 : (i : Int) + 1 ≤ p := by omega
      have x9 : min p w.size = p := Nat.min_eq_left (by omega)
      have y1 : i + (p - (i + 1)) ≤ 9223372036854775807 := by omega
      have y2 : i + (p - (i + 1)) + (w.size - (p + 1)) ≤ 9223372036854775807 := by omega
      have y3 : i + 1 + (p - (i + 1)) ≤ 9223372036854775807 := by omega
      have y4 : i + 1 + (p - (i + 1)) + 1 ≤ 9223372036854775807 := by omega
      have y5 : i + 1 + (p - (i + 1)) + 1 + (w.size - (p + 1)) ≤ 9223372036854775807 := by omega
      have y6 : i + 1 ≤ 9223372036854775807 := by omega
      have y7 : i ≤ 9223372036854775807 := by omega
      have y8 : p ≤ 9223372036854775807 := by omega
      have y9 : p + 1 ≤ 9223372036854775807 := by omega
      have z1 : p + 1 + (w.size - (p + 1)) ≤ 9223372036854775807 := by omega
      have z2 : w.size ≤ 9223372036854775807 := by omega
      have z0 : ¬ ((p : Int) < 0) := by omega
      have w1 := wrap_i64 (n := (i : Int) + 1) (by omega)
      have w2 := wrap_i64 (n := (p : Int) + 1) (by omega)
      rw [hp, hb] at v3
      simp [ac_impl_editTree, v3, hb, hp, frA, bkA, app_emp, hm, w1, w2, x0, x1, x2, x3, x4, x5, x6, x7, x8, x9, y1, y2, y3, y4, y5, y6, y7, y8, y9, z0, z1, z2, emp_size, hts]
    · simp [ac_impl_editTree, v3, hb]

def editA (w : ByteArray) (e : GTreeEdit) : ByteArray × Int := if okWord w = true ∧ okEdit e = true then madeA w e else (emp, 1)
theorem ev_impl_EditTree (w : ByteArray) (e : GTreeEdit) (hw : w.size ≤ 1048576) (hz : e.text.size ≤ 1048576) : ev fns i_impl_EditTree [str w, e.v] [] = some (.tup [str (editA w e).1, i64 (editA w e).2], []) := by
  refine go_impl_EditTree (by simp) ?_
  have v1 := ev_impl_ValidWord w (by omega)
  have v2 := ev_impl_ValidTreeEdit e hz
  simp at v1 v2
  unfold editA
  cases h1 : okWord w
  · simp [h1] at v1; simp [ac_impl_EditTree, v1]
  · simp [h1] at v1
    cases h2 : okEdit e
    · simp [h2] at v2; simp [ac_impl_EditTree, v1, v2]
    · simp [h2] at v2
      have v3 := ev_impl_editTree w e h1 h2 hz
      simp at v3
      simp [ac_impl_EditTree, v1, v2, v3]

theorem ev_spec_l06Given (w : ByteArray) (e : GTreeEdit) (hw : w.size ≤ 1048576) (hz : e.text.size ≤ 1048576) : ev fns i_spec_l06Given [str w, .fptr [i64 e.kind, i64 e.at_, i64 e.to, str e.text] 0] [] = some (i64 (if okWord w = true ∧ okEdit e = true then 0 else 1), []) := by
  refine go_spec_l06Given (by simp) ?_
  have v1 := ev_spec_l01Ok w (by omega)
  have v2 := ev_spec_l06Edit e hz
  simp at v1 v2
  cases h1 : okWord w
  · simp [h1] at v1; simp [ac_spec_l06Given, v1]
  · simp [h1] at v1
    cases h2 : okEdit e
    · simp [h2] at v2; simp [ac_spec_l06Given, v1, v2]
    · simp [h2] at v2; simp [ac_spec_l06Given, v1, v2]

set_option maxHeartbeats 2000000 in
theorem ev_spec_l06Made (w : ByteArray) (e : GTreeEdit) (hw : okWord w = true) (he : okEdit e = true) (hz : e.text.size ≤ 1048576) : ev fns i_spec_l06Made [str w, .fptr [i64 e.kind, i64 e.at_, i64 e.to, str e.text] 0] [] = some (.tup [str (madeA w e).1, i64 (madeA w e).2], []) := by
  refine go_spec_l06Made (by simp) ?_
  obtain ⟨kind, at_, to, text⟩ := e
  simp only at hz
  have hs := okWord_size hw
  unfold madeA
  simp only [okEdit, Bool.and_eq_true] at he
  obtain ⟨⟨⟨⟨h1, h2⟩, h3⟩, h4⟩, h5⟩ := he
  have v1 := ev_spec_PutAt w at_ text (by omega) hz
  have v2 := ev_spec_CutMatched w at_ (by omega)
  have v3 := ev_spec_l01Partners w (by omega)
  simp at v1 v2 v3
  simp [inR] at h2 h3
  obtain ⟨i, rfl⟩ := Int.eq_ofNat_of_zero_le h2.1
  obtain ⟨j, rfl⟩ := Int.eq_ofNat_of_zero_le h3.1
  have hlen : (pmatch (wl w)).1.length = w.size := by rw [(pmatch_ok (wl w)).len]; simp
  rcases kind_cases h1 with rfl | rfl | rfl | rfl | rfl
  · simp [ac_spec_l06Made, v1]
  · simp [ac_spec_l06Made, v2]
  · by_cases hn : i < w.size
    rotate_left
    · simp [ac_spec_l06Made, show ((w.size : Int) ≤ i) by omega, bodyA, hw, show ¬ (inR (i : Int) 0 ((w.size : Int) - 1) = true) by simp [inR]; omega]
    have hin : inR (i : Int) 0 ((w.size : Int) - 1) = true := by simp [inR]; omega
    have hn2 : i < (pmatch (wl w)).1.length := by omega
    have hp : (pmatch (wl w)).1[i] = parAt w i := by
      unfold parAt
      rw [List.getD_eq_getElem?_getD, List.getElem?_eq_getElem hn2]; rfl
    have hnn : ¬ ((w.size : Int) ≤ i) := by omega
    cases h6 : isCallB (bt w i)
    · simp [ac_spec_l06Made, v3, bodyA, hw, hin, hn, hnn, hlen, hn2, hp, h6]
    · by_cases h7 : 0 ≤ parAt w i
      · have hb : bodyA w i = (parAt w i, 0) := by simp [bodyA, hw, hin, h6, h7]
        obtain ⟨n, p, en, hq, g1, g2, g3⟩ := bodyA_ok (w := w) (i := i) (by rw [hb])
        rw [hb] at hq
        simp only at hq
        obtain rfl : i = n := by omega
        have hm : min i w.size = i := Nat.min_eq_left (by omega)
        have x0 : i ≤ w.size := by omega
        have x1 : i + 1 ≤ p := by omega
        have x2 : p ≤ w.size := by omega
        have x3 : p + 1 ≤ w.size := by omega
        have x4 : ((i : Int) + 1).toNat = i + 1 := by omega
        have x5 : ((p : Int) + 1).toNat = p + 1 := by omega
        have x6 : (0 : Int) ≤ (i : Int) + 1 := by omega
        have x7 : (0 : Int) ≤ (p : Int) + 1 := by omega
        have x8 : (i : Int) + 1 ≤ p := by omega
        have x9 : min p w.size = p := Nat.min_eq_left (by omega)
        have y1 : i + (p - (i + 1)) ≤ 9223372036854775807 := by omega
        have y2 : i + (p - (i + 1)) + (w.size - (p + 1)) ≤ 9223372036854775807 := by omega
        have y3 : i + 1 + (p - (i + 1)) ≤ 9223372036854775807 := by omega
        have y4 : i + 1 + (p - (i + 1)) + 1 ≤ 9223372036854775807 := by omega
        have y5 : i + 1 + (p - (i + 1)) + 1 + (w.size - (p + 1)) ≤ 9223372036854775807 := by omega
        have y6 : i + 1 ≤ 9223372036854775807 := by omega
        have y7 : i ≤ 9223372036854775807 := by omega
        have y8 : p ≤ 9223372036854775807 := by omega
        have y9 : p + 1 ≤ 9223372036854775807 := by omega
        have z1 : p + 1 + (w.size - (p + 1)) ≤ 9223372036854775807 := by omega
        have z2 : w.size ≤ 9223372036854775807 := by omega
        have z0 : ¬ ((p : Int) < 0) := by omega
        have w1 := wrap_i64 (n := (i : Int) + 1) (by omega)
        have w2 := wrap_i64 (n := (p : Int) + 1) (by omega)
        rw [hq] at hb hp
        rw [hb]
        simp [ac_spec_l06Made, v3, hn, hnn, hlen, hn2, hp, h6, frA, bkA, app_emp, hm, w1, w2, x0, x1, x2, x3, x4, x5, x6, x7, x8, x9, y1, y2, y3, y4, y5, y6, y7, y8, y9, z0, z1, z2, emp_size]
      · simp [ac_spec_l06Made, v3, bodyA, hw, hin, hn, hnn, hlen, hn2, hp, h6, h7, show (parAt w i < 0) by omega]
  · simp at h5
    have hts := isBrk_size h5
    by_cases hr : (i : Int) ≤ j ∧ (j : Int) ≤ w.size
    · have x0 : i ≤ w.size := by omega
      have x1 : i ≤ j := by omega
      have x2 : j ≤ w.size := by omega
      have x3 : ¬ (w.size < j) := by omega
      have x4 : ¬ (w.size < i) := by omega
      have x5 : ¬ (j < i) := by omega
      have x6 : min i w.size = i := Nat.min_eq_left (by omega)
      have x7 : min j w.size = j := Nat.min_eq_left (by omega)
      have y1 : i + 1 ≤ 9223372036854775807 := by omega
      have y2 : i + 1 + (j - i) ≤ 9223372036854775807 := by omega
      have y3 : i + 1 + (j - i) + 1 ≤ 9223372036854775807 := by omega
      have y4 : i + 1 + (j - i) + 1 + (w.size - j) ≤ 9223372036854775807 := by omega
      have v4 := ev_spec_l01Matched (w.extract i j) (by simp; omega)
      simp at v4
      have w3 := wrap_i64 (n := (w.size : Int) + 2) (by omega)
      cases hm : isM (w.extract i j)
      · simp [hm] at v4
        simp [ac_spec_l06Made, v4, hm, x0, x1, x2, x3, x4, x5, x6, x7, y1, y2, y3, y4]
      · simp [hm] at v4
        have hx : okWord (w.extract 0 i ++ text.extract 0 1 ++ w.extract i j ++ text.extract 1 text.size ++ w.extract j w.size) = decide (w.size + 2 ≤ 60) := by
          rw [okWord_of (by
            simp only [wl_append, allSym_append, allSym_cut' hw, Bool.and_true, Bool.true_and]
            rw [wl_extract, wl_extract, allSym_cut (brk_sym h5), allSym_cut (brk_sym h5)]; rfl)]
          congr 1
          apply propext
          simp
          omega
        rw [hts] at hx
        by_cases h8 : w.size + 2 ≤ 60
        · simp [ac_spec_l06Made, v4, hm, w3, h8, hts, orLim, hx, show ¬ ((60 : Int) < (w.size : Int) + 2) by omega, x0, x1, x2, x3, x4, x5, x6, x7, y1, y2, y3, y4]
        · simp [ac_spec_l06Made, v4, hm, w3, h8, hts, orLim, hx, show ((60 : Int) < (w.size : Int) + 2) by omega, x0, x1, x2, x3, x4, x5, x6, x7, y1, y2, y3, y4]
    · have hrn : ¬ (i ≤ j ∧ j ≤ w.size) := by omega
      by_cases c1 : w.size < i
      · simp [ac_spec_l06Made, hrn, c1]
      · by_cases c2 : w.size < j
        · simp [ac_spec_l06Made, hrn, c1, c2]
        · simp [ac_spec_l06Made, hrn, c1, c2, show j < i by omega]
  · simp at h5
    have hts := isBrk_size h5
    by_cases hn : i < w.size
    rotate_left
    · simp [ac_spec_l06Made, show ((w.size : Int) ≤ i) by omega, bodyA, hw, show ¬ (inR (i : Int) 0 ((w.size : Int) - 1) = true) by simp [inR]; omega]
    have hin : inR (i : Int) 0 ((w.size : Int) - 1) = true := by simp [inR]; omega
    have hn2 : i < (pmatch (wl w)).1.length := by omega
    have hp : (pmatch (wl w)).1[i] = parAt w i := by
      unfold parAt
      rw [List.getD_eq_getElem?_getD, List.getElem?_eq_getElem hn2]; rfl
    have hnn : ¬ ((w.size : Int) ≤ i) := by omega
    cases h6 : isCallB (bt w i)
    · simp [ac_spec_l06Made, v3, bodyA, hw, hin, hn, hnn, hlen, hn2, hp, h6]
    · by_cases h7 : 0 ≤ parAt w i
      · have hb : bodyA w i = (parAt w i, 0) := by simp [bodyA, hw, hin, h6, h7]
        obtain ⟨n, p, en, hq, g1, g2, g3⟩ := bodyA_ok (w := w) (i := i) (by rw [hb])
        rw [hb] at hq
        simp only at hq
        obtain rfl : i = n := by omega
        have hm : min i w.size = i := Nat.min_eq_left (by omega)
        have x0 : i ≤ w.size := by omega
        have x1 : i + 1 ≤ p := by omega
        have x2 : p ≤ w.size := by omega
        have x3 : p + 1 ≤ w.size := by omega
        have x4 : ((i : Int) + 1).toNat = i + 1 := by omega
        have x5 : ((p : Int) + 1).toNat = p + 1 := by omega
        have x6 : (0 : Int) ≤ (i : Int) + 1 := by omega
        have x7 : (0 : Int) ≤ (p : Int) + 1 := by omega
        have x8 : (i : Int) + 1 ≤ p := by omega
        have x9 : min p w.size = p := Nat.min_eq_left (by omega)
        have y1 : i + (p - (i + 1)) ≤ 9223372036854775807 := by omega
        have y2 : i + (p - (i + 1)) + (w.size - (p + 1)) ≤ 9223372036854775807 := by omega
        have y3 : i + 1 + (p - (i + 1)) ≤ 9223372036854775807 := by omega
        have y4 : i + 1 + (p - (i + 1)) + 1 ≤ 9223372036854775807 := by omega
        have y5 : i + 1 + (p - (i + 1)) + 1 + (w.size - (p + 1)) ≤ 9223372036854775807 := by omega
        have y6 : i + 1 ≤ 9223372036854775807 := by omega
        have y7 : i ≤ 9223372036854775807 := by omega
        have y8 : p ≤ 9223372036854775807 := by omega
        have y9 : p + 1 ≤ 9223372036854775807 := by omega
        have z1 : p + 1 + (w.size - (p + 1)) ≤ 9223372036854775807 := by omega
        have z2 : w.size ≤ 9223372036854775807 := by omega
        have z0 : ¬ ((p : Int) < 0) := by omega
        have w1 := wrap_i64 (n := (i : Int) + 1) (by omega)
        have w2 := wrap_i64 (n := (p : Int) + 1) (by omega)
        rw [hq] at hb hp
        rw [hb]
        simp [ac_spec_l06Made, v3, hn, hnn, hlen, hn2, hp, h6, frA, bkA, app_emp, hm, w1, w2, x0, x1, x2, x3, x4, x5, x6, x7, x8, x9, y1, y2, y3, y4, y5, y6, y7, y8, y9, z0, z1, z2, emp_size, hts]
      · simp [ac_spec_l06Made, v3, bodyA, hw, hin, hn, hnn, hlen, hn2, hp, h6, h7, show (parAt w i < 0) by omega]
end Go.Proofs.Ytlahdcofclkjjaa
