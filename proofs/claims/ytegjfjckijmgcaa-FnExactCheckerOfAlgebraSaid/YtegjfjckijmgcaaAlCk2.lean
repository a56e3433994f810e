/- The checker of an algebra. -/
import Derived.Test.YtegjfjckijmgcaaValidAl2
import Derived.Test.YtegjfjckijmgcaaBuilt
set_option linter.unusedVariables false
set_option linter.unusedSimpArgs false
set_option maxRecDepth 100000
namespace Go.Proofs.Ytegjfjckijmgcaa
open Aw
/-! ### The program's closures -/
def wN (a : GAlgebra) (i k : Nat) : Nat := ((a.wrap.getD i []).getD k 0).toNat
def iN (a : GAlgebra) (k : Nat) : Nat := (a.inner.getD k 0).toNat
structure AlW (a : GAlgebra) : Prop where
  wl : a.wrap.length = 4
  wr : ∀ x (h : x < a.wrap.length), (a.wrap[x]).length = a.accept.length
  wv : ∀ x y (h : x < a.wrap.length) (k : y < (a.wrap[x]).length), (a.wrap[x])[y] = ((wN a x y : Nat) : Int)
  wt : ∀ x y, x < 4 → y < a.accept.length → wN a x y < a.accept.length
  il : a.inner.length = 2
  iv : ∀ x (h : x < a.inner.length), a.inner[x] = ((iN a x : Nat) : Int)
  it : ∀ x, x < 2 → iN a x < a.accept.length
theorem lsOk_aw {a : GAlgebra} (h : lsOk a = true) : AlW a := by
  simp only [lsOk, Bool.and_eq_true, decide_eq_true_eq, List.all_eq_true] at h
  obtain ⟨⟨⟨⟨⟨h1, h2⟩, h3⟩, h4⟩, h5⟩, h6⟩ := h
  have wr : ∀ x (h : x < a.wrap.length), (a.wrap[x]).length = a.accept.length := fun x hx => by
    have := (okSts_mem (h6 _ (List.getElem_mem hx))).1; omega
  have val : ∀ x y (h : x < a.wrap.length) (k : y < (a.wrap[x]).length), (a.wrap.getD x []).getD y 0 = (a.wrap[x])[y] := fun x y hx hy => by
    simp [List.getD_eq_getElem?_getD, List.getElem?_eq_getElem hx, List.getElem?_eq_getElem hy]
  have rng : ∀ x y (h : x < a.wrap.length) (k : y < (a.wrap[x]).length), 0 ≤ (a.wrap[x])[y] ∧ (a.wrap[x])[y] < a.accept.length := fun x y hx hy =>
    (okSts_mem (h6 _ (List.getElem_mem hx))).2 _ (List.getElem_mem hy)
  have il : a.inner.length = 2 := by have := (okSts_mem h4).1; omega
  have ival : ∀ x (h : x < a.inner.length), a.inner.getD x 0 = a.inner[x] := fun x hx => by
    simp [List.getD_eq_getElem?_getD, List.getElem?_eq_getElem hx]
  have irng : ∀ x (h : x < a.inner.length), 0 ≤ a.inner[x] ∧ a.inner[x] < a.accept.length := fun x hx => (okSts_mem h4).2 _ (List.getElem_mem hx)
  refine ⟨h3, wr, fun x y hx hy => ?_, fun x y hx hy => ?_, il, fun x hx => ?_, fun x hx => ?_⟩
  · have := rng x y hx hy; unfold wN; rw [val x y hx hy]; omega
  · have hx' : x < a.wrap.length := by omega
    have hy' : y < (a.wrap[x]).length := by rw [wr x hx']; exact hy
    have := rng x y hx' hy'; unfold wN; rw [val x y hx' hy']; omega
  · have := irng x hx; unfold iN; rw [ival x hx]; omega
  · have := irng x (by omega); unfold iN; rw [ival x (by omega)]; omega
/-- The last state. -/
def caL (a : GAlgebra) : Nat := 2 * a.accept.length
def caA (a : GAlgebra) (s : Nat) : Bool := decide (s < a.accept.length) && (a.accept.getD s false)
def caT (a : GAlgebra) (s : Nat) : Nat := if s = caL a then caL a else a.accept.length
def caC (a : GAlgebra) (s k : Nat) : GPush := ⟨caT a s, 2 * s + k⟩
def caB (a : GAlgebra) (s k m : Nat) : Int :=
  if s < a.accept.length ∨ s = caL a ∨ caL a ≤ m / 2 then caL a else
    (gN a (m / 2 % a.accept.length) (wN a (2 * (m % 2) + k) (s - a.accept.length)) : Nat) + (if a.accept.length ≤ m / 2 then (a.accept.length : Int) else 0)
def caI (a : GAlgebra) (s k : Nat) : Int :=
  if s = caL a then caL a else (s / a.accept.length * a.accept.length : Nat) + (gN a (s % a.accept.length) (iN a k) : Nat)
theorem tq (x y : Nat) : (x : Int).tdiv y = ((x / y : Nat) : Int) := rfl
theorem tr (x y : Nat) : (x : Int).tmod y = ((x % y : Nat) : Int) := rfl
theorem ev_caA {a : GAlgebra} (ha : AlL a) (s : Nat) (hs : s ≤ 80) : ev fns i_impl_CheckerOfAlgebra_1 [i64 s, .fptr [i64 a.accept.length] 0, AgP a] [] = some (bol (caA a s), []) := by
  have hn := ha.n
  refine go_impl_CheckerOfAlgebra_1 (by simp) ?_
  unfold caA
  by_cases c : s < a.accept.length
  · simp [ac_impl_CheckerOfAlgebra_1, c, List.getD_eq_getElem?_getD]
  · simp [ac_impl_CheckerOfAlgebra_1, c]
theorem ev_caC {a : GAlgebra} (ha : AlL a) (s k : Nat) (hs : s ≤ 80) (hk : k < 2) : ev fns i_impl_CheckerOfAlgebra_2 [i64 s, i64 k, .fptr [i64 (caL a)] 0, .fptr [i64 a.accept.length] 0] [] = some ((caC a s k).v, []) := by
  have hn := ha.n
  refine go_impl_CheckerOfAlgebra_2 (by simp) ?_
  have w1 := wrap_i64 (n := 2 * s) (by omega)
  have w2 := wrap_i64 (n := 2 * s + k) (by omega)
  unfold caC caT
  by_cases c : s = caL a
  · subst c
    simp [ac_impl_CheckerOfAlgebra_2, w1, w2, setCells]
  · simp [ac_impl_CheckerOfAlgebra_2, c, show ¬ ((s : Int) = caL a) by omega, w1, w2, setCells]
set_option maxHeartbeats 2000000 in
theorem ev_caI {a : GAlgebra} (ha : AlL a) (hw : AlW a) (s k : Nat) (hs : s ≤ caL a) (hk : k < 2) : ev fns i_impl_CheckerOfAlgebra_4 [i64 s, i64 k, .fptr [i64 (caL a)] 0, .fptr [i64 a.accept.length] 0, AgP a] [] = some (i64 (caI a s k), []) := by
  have hn := ha.n
  refine go_impl_CheckerOfAlgebra_4 (by simp) ?_
  unfold caI
  by_cases c : s = caL a
  · subst c
    simp [ac_impl_CheckerOfAlgebra_4]
  · have hv := ha.val; have hr := ha.row; have iv := hw.iv
    have m0 : s % a.accept.length < a.accept.length := Nat.mod_lt _ (by omega)
    have q0 : s / a.accept.length ≤ 80 := Nat.le_trans (Nat.div_le_self _ _) (by unfold caL at hs; omega)
    have q1 : s / a.accept.length * a.accept.length ≤ s := Nat.div_mul_le_self _ _
    have p0 := ha.lt _ _ m0 (hw.it k hk)
    have i0 := hw.it k hk
    have e1 := tq s a.accept.length
    have e2 := tr s a.accept.length
    unfold caL at hs
    have c' : ¬ ((s : Int) = caL a) := by omega
    have n0 : ¬ ((a.accept.length : Int) = 0) := by omega
    have n1 : ¬ a.accept = [] := fun h => by rw [h] at n0; simp at n0
    rw [if_neg c]
    generalize s / a.accept.length = q at *
    generalize s % a.accept.length = m at *
    generalize hz : q * a.accept.length = z at *
    have hz' : (q : Int) * (a.accept.length : Int) = (z : Int) := by rw [← hz]; simp
    have w0 := wrap_i64 (n := (q : Int)) (by omega)
    have w1 := wrap_i64 (n := (z : Int)) (by omega)
    have w2 := wrap_i64 (n := (z : Int) + (gN a m (iN a k) : Nat)) (by omega)
    simp [ac_impl_CheckerOfAlgebra_4, c, c', e1, e2, n0, n1, ha.pl, hw.il, m0, hr, hv, iv, hk, show (k : Int) < 2 by omega, i0, w0, w1, w2, hz']
    done
set_option maxHeartbeats 4000000 in
theorem ev_caB {a : GAlgebra} (ha : AlL a) (hw : AlW a) (s k m : Nat) (hs : s ≤ caL a) (hk : k < 2) (hm : m ≤ 1000) : ev fns i_impl_CheckerOfAlgebra_3 [i64 s, i64 k, i64 m, .fptr [i64 a.accept.length] 0, .fptr [i64 (caL a)] 0, AgP a] [] = some (i64 (caB a s k m), []) := by
  have hn := ha.n
  refine go_impl_CheckerOfAlgebra_3 (by simp) ?_
  unfold caB
  have e1 : (m : Int).tdiv 2 = ((m / 2 : Nat) : Int) := rfl
  have e2 : (m : Int).tmod 2 = ((m % 2 : Nat) : Int) := rfl
  have b0 : m / 2 ≤ 1000 := by omega
  have b1 : m % 2 < 2 := by omega
  have e3 := tr (m / 2) a.accept.length
  have m0 : m / 2 % a.accept.length < a.accept.length := Nat.mod_lt _ (by omega)
  have n0 : ¬ ((a.accept.length : Int) = 0) := by omega
  have n1 : ¬ a.accept = [] := fun h => by rw [h] at n0; simp at n0
  generalize m / 2 = q at *
  generalize m % 2 = r at *
  generalize q % a.accept.length = u at *
  have w0 := wrap_i64 (n := (q : Int)) (by omega)
  by_cases c1 : s < a.accept.length
  · simp [ac_impl_CheckerOfAlgebra_3, e1, e2, w0, c1]
  by_cases c2 : s = caL a
  · subst c2
    simp [ac_impl_CheckerOfAlgebra_3, e1, e2, w0, c1]
  have c2' : ¬ ((s : Int) = caL a) := by omega
  by_cases c3 : caL a ≤ q
  · simp [ac_impl_CheckerOfAlgebra_3, e1, e2, w0, c1, c2, c2', c3]
  have hv := ha.val; have hr := ha.row; have wv := hw.wv; have wr := hw.wr
  obtain ⟨d, rfl⟩ : ∃ d, s = a.accept.length + d := ⟨s - a.accept.length, by omega⟩
  have hd : d < a.accept.length := by unfold caL at hs c2; omega
  have h4 : 2 * r + k < 4 := by omega
  have p1 := hw.wt (2 * r + k) d h4 hd
  have p2 := ha.lt u _ m0 p1
  have v1 := wrap_i64 (n := 2 * r) (by omega)
  have v2 := wrap_i64 (n := 2 * r + k) (by omega)
  have v3 := wrap_i64 (n := d) (by omega)
  have v4 := wrap_i64 (n := (gN a u (wN a (2 * r + k) d) : Nat) + a.accept.length) (by omega)
  have t1 : (2 * (r : Int) + k).toNat = 2 * r + k := by omega
  have t2 : (0 : Int) ≤ 2 * (r : Int) + k ∧ 2 * (r : Int) + k < 4 := by omega
  have t3 : ((a.accept.length : Int) + d - a.accept.length) = d := by omega
  have t4 : a.accept.length + d - a.accept.length = d := by omega
  have c1' : ¬ ((a.accept.length : Int) + d < a.accept.length) := by omega
  have c2'' : ¬ ((a.accept.length : Int) + d = caL a) := by omega
  by_cases c4 : a.accept.length ≤ q
  · simp [ac_impl_CheckerOfAlgebra_3, e1, e2, e3, w0, c1, c1', c2, c2'', c3, c4, n0, n1, ha.pl, hw.wl, m0, hr, hv, wr, wv, hk, p1, v1, v2, v3, v4, t1, t2, t3, t4, h4, hd]
    done
  · simp [ac_impl_CheckerOfAlgebra_3, e1, e2, e3, w0, c1, c1', c2, c2'', c3, c4, n0, n1, ha.pl, hw.wl, m0, hr, hv, wr, wv, hk, p1, v1, v2, v3, v4, t1, t2, t3, t4, h4, hd]
    done
/-! ### The program's CheckerOfAlgebra -/
theorem okAl_ls {a : GAlgebra} (h : okAl a = true) : lsOk a = true := by
  unfold okAl at h
  simp only [Bool.and_eq_true] at h
  exact h.1.1
/-- What CheckerOfAlgebra answers. -/
def ckOf (a : GAlgebra) : GChecker := bltCk (2 * a.accept.length + 1) (2 * (2 * a.accept.length + 1)) 0 (caA a) (caC a) (caB a) (caI a)
def ckBig (a : GAlgebra) : Bool := decide (40 < 2 * a.accept.length + 1) || decide (80 < 2 * (2 * a.accept.length + 1))
def caX (a : GAlgebra) : GChecker := if okAl a then (if ckBig a then ⟨0, 0, [], [], [], []⟩ else ckOf a) else ⟨0, 0, [], [], [], []⟩
def caK (a : GAlgebra) : Int := if okAl a then (if ckBig a then 3 else 0) else 1
theorem own_ck0 (σ : List AObj) : OwnIn σ [] (.agg [i64 0, i64 0, .val (.slice none 0 0), .val (.slice none 0 0), .val (.slice none 0 0), .val (.slice none 0 0)]) (⟨0, 0, [], [], [], []⟩ : GChecker) := by
  refine ⟨own_Checker.2 ⟨[], _, [], _, [], _, [], _, [], _, [], _, rfl, rfl, ⟨rfl, rfl⟩, ⟨rfl, rfl⟩, ?_, ?_, ?_, ?_⟩, by simp, by simp⟩
  all_goals exact .inl ⟨rfl, rfl, rfl⟩
set_option maxHeartbeats 8000000 in
theorem imC_CheckerOfAlgebra (a : GAlgebra) (hz : Siz.size a ≤ 1048576) : ∃ p τ ids, ev fns i_impl_CheckerOfAlgebra [a.v] [] = some (.tup [p, i64 (caK a)], τ) ∧ OwnIn τ ids p (caX a) ∧ GoodN τ := by
  have hv := ev_impl_ValidAlgebra a hz
  have he := ev_elements a
  unfold caK caX
  cases c1 : okAl a
  · rw [c1] at hv
    simp at hv
    refine ⟨_, [], [], go_impl_CheckerOfAlgebra (by simp) ?_, own_ck0 _, GoodN.nil⟩
    simp [ac_impl_CheckerOfAlgebra, hv, setCells]
    done
  · rw [c1] at hv
    have ha := lsOk_al (okAl_ls c1)
    have hw := lsOk_aw (okAl_ls c1)
    have hn := ha.n
    have w1 := wrap_i64 (n := 2 * (a.accept.length : Int)) (by omega)
    have w2 := wrap_i64 (n := 2 * (a.accept.length : Int) + 1) (by omega)
    have w3 := wrap_i64 (n := 2 * (2 * (a.accept.length : Int) + 1)) (by omega)
    cases c2 : ckBig a
    · unfold ckBig at c2
      simp only [Bool.or_eq_false_iff, decide_eq_false_iff_not] at c2
      obtain ⟨p, τ, ids, hb, ho, hg⟩ := ev_impl_built (caA a) (caC a) (caB a) (caI a) (.fn i_impl_CheckerOfAlgebra_1 [.fptr [i64 a.accept.length] 0, AgP a]) (.fn i_impl_CheckerOfAlgebra_2 [.fptr [i64 (caL a)] 0, .fptr [i64 a.accept.length] 0]) (.fn i_impl_CheckerOfAlgebra_3 [.fptr [i64 a.accept.length] 0, .fptr [i64 (caL a)] 0, AgP a]) (.fn i_impl_CheckerOfAlgebra_4 [.fptr [i64 (caL a)] 0, .fptr [i64 a.accept.length] 0, AgP a])
        (by simp [PV.bels, PV.bel]) (2 * a.accept.length + 1) (2 * (2 * a.accept.length + 1)) (by omega) (by omega) 0
        (fun σ s hs => by have h := ev_caA ha s (by omega); simp at h; simp [h])
        (fun σ s k hs hk => by have h := ev_caC ha s k (by omega) hk; simp at h; simp [h])
        (fun σ s k m hs hk hm => by have h := ev_caB ha hw s k m (by unfold caL; omega) hk (by omega); simp at h; simp [h])
        (fun σ s k hs hk => by have h := ev_caI ha hw s k (by unfold caL; omega) hk; simp at h; simp [h])
      obtain ⟨p', σ', ids', hbe, o', hfr, g', e', n'⟩ := made_in (σ := [.row 6 [zCk] 0, .row 1 [i64 a.accept.length] 0, .row 1 [i64 (2 * a.accept.length)] 0]) (js := []) ho hg (by simp [Good, objsBel, PV.bels, PV.bel]) (by
        refine GoodN.nlX ⟨by simp [Good, objsBel, PV.bels, PV.bel], by simp [AObj.nl, PV.nls, PV.nl]⟩)
      have e0 := e'.get (j := 0) (r := .row 6 [zCk] 0) rfl
      have ow := o'.own
      have ob := o'.bel
      have onl := Own.nl ow
      obtain ⟨i0, p0, i1, p1, i2, p2, i3, p3, i4, p4, i5, p5, _, hp, ⟨_, hp0⟩, ⟨_, hp1⟩, h2, h3, h4, h5⟩ := own_Checker.1 ow
      subst hp0 hp1
      have nb : PV.bel 0 p2 = false := by
        rcases h2 with ⟨e1, e2, e3⟩ | ⟨id, v, es, is, e1, e2, e3, e4, e5⟩
        · exfalso
          first
          | (have := congrArg List.length e1; simp [bltCk] at this; done)
          | (have := congrArg List.length e2; simp [bltCk] at this; done)
          | (have := congrArg List.length e3; simp [bltCk] at this; done)
        · first
          | (rw [e1]; simp [PV.bel]; done)
          | (rw [e4]; simp [PV.bel]; done)
      have kn2 := (own_one h2).2
      have kn3 := (own_one h3).2
      have kn4 := (own_one h4).2
      have kn5 := (own_one h5).2
      have K := Keep.set σ' 0 (.row 6 [p'] 0)
      have hl0 : 0 < σ'.length := (List.getElem?_eq_some_iff.1 e0).1
      have gg : Good (σ'.set 0 (.row 6 [p'] 0)) := Good.set g' _ _ _ (by simp only [PV.bels, Bool.and_true]; exact ob)
      refine ⟨p', σ'.set 0 (.row 6 [p'] 0), ids', go_impl_CheckerOfAlgebra (by simp) ?_, ?_, ?_⟩
      · have q0 : ∀ r, (σ'.set 0 r)[0]? = some r := fun r => List.getElem?_set_self hl0
        unfold Good at gg
        have d1 : ¬ (40 : Int) < 2 * (a.accept.length : Int) + 1 := by omega
        have d2 : ¬ (80 : Int) < 2 * (2 * (a.accept.length : Int) + 1) := by omega
        have pn := Own.nl ho.own
        have tn := hg.2
        unfold caL at hb
        rw [hp] at hbe ob gg ⊢
        simp at hb hv he hbe e0 q0 gg ob pn tn kn2 kn3 kn4 kn5
        simp [ac_impl_CheckerOfAlgebra, hv, he, w1, w2, w3, d1, d2, pn, eq_true tn, hb, hbe, e0, q0, gg, ob, nb, kn2, kn3, kn4, kn5, setCells]
        done
      · exact K.own o' (fun i hi hj => by simp at hj; have := hfr i hi; simp at this; omega)
      · exact (n'.set 0 (row_nl (by simp only [PV.nls, Bool.and_true]; exact onl))).good gg
    · unfold ckBig at c2
      simp only [Bool.or_eq_true, decide_eq_true_eq] at c2
      refine ⟨_, [], [], go_impl_CheckerOfAlgebra (by simp) ?_, own_ck0 _, GoodN.nil⟩
      · have c3 : (40 : Int) < 2 * (a.accept.length : Int) + 1 ∨ ¬ (40 : Int) < 2 * (a.accept.length : Int) + 1 := by omega
        simp at hv he
        rcases c3 with c3 | c3
        · simp [ac_impl_CheckerOfAlgebra, hv, he, w1, w2, w3, c3, setCells]
          done
        · have c4 : (80 : Int) < 2 * (2 * (a.accept.length : Int) + 1) := by omega
          simp [ac_impl_CheckerOfAlgebra, hv, he, w1, w2, w3, c3, c4, setCells]
          done
end Go.Proofs.Ytegjfjckijmgcaa
