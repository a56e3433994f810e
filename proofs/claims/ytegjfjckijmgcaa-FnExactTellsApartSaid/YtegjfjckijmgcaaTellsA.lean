/- Whether a checker tells two words apart in a context: the program's and the reference's. -/
import Derived.Test.YtegjfjckijmgcaaRunC
import Derived.Test.YtegjfjckijmgcaaMks
set_option linter.unusedVariables false
set_option linter.unusedSimpArgs false
set_option maxRecDepth 100000
namespace Go.Proofs.Ytegjfjckijmgcaa
open Aw

theorem okWord_symW {w : ByteArray} (h : okWord w = true) : symW w := by
  unfold okWord at h
  simp only [Bool.and_eq_true, List.all_eq_true, decide_eq_true_eq] at h
  exact h.1
theorem okWord_le {w : ByteArray} (h : okWord w = true) : w.size ≤ 60 := by
  unfold okWord at h
  simp only [Bool.and_eq_true, decide_eq_true_eq] at h
  exact h.2
theorem symW_app {a b : ByteArray} (ha : symW a) (hb : symW b) : symW (a ++ b) := by
  intro ch hc
  have : wl (a ++ b) = wl a ++ wl b := by simp [wl]
  rw [this] at hc
  rcases List.mem_append.1 hc with hc | hc
  · exact ha ch hc
  · exact hb ch hc
def tellsOk (c : GChecker) (w u : ByteArray) (x : GContext) : Bool := okCk c && okWord w && okWord u && okWord x.front && okWord x.back
def tellsA (c : GChecker) (w u : ByteArray) (x : GContext) : Bool × Int :=
  if tellsOk c w u x = false then (false, 1)
  else if (isM w && isM u) = false then (false, 4)
  else if x.front.size + w.size + x.back.size > 60 ∨ x.front.size + u.size + x.back.size > 60 then (false, 3)
  else (!decide (takesC c (x.front ++ w ++ x.back) = takesC c (x.front ++ u ++ x.back)), 0)
theorem ev_around (x : GContext) (w : ByteArray) (h1 : x.front.size ≤ 1048576) (h2 : w.size ≤ 1048576) (h3 : x.back.size ≤ 1048576) : ev fns i_impl_Context_around [x.v, str w] [] = some (str (x.front ++ w ++ x.back), []) := by
  refine go_impl_Context_around (by simp) ?_
  simp [ac_impl_Context_around, ByteArray.size_append, show x.front.size + w.size ≤ 9223372036854775807 by omega, show x.front.size + w.size + x.back.size ≤ 9223372036854775807 by omega]
set_option maxHeartbeats 2000000 in
theorem ev_impl_TellsApart (c : GChecker) (hz : Siz.size c ≤ 1048576) (w u : ByteArray) (hw : w.size ≤ 1048576) (hu : u.size ≤ 1048576) (x : GContext) (hx : Siz.size x ≤ 1048576) : ev fns i_impl_TellsApart [c.v, str w, str u, x.v] [] = some (.tup [bol (tellsA c w u x).1, i64 (tellsA c w u x).2], []) := by
  refine go_impl_TellsApart (by simp) ?_
  rw [size_Context] at hx
  have hx1 : x.front.size ≤ 1048576 := by have : Siz.size x.front = x.front.size := rfl; omega
  have hx2 : x.back.size ≤ 1048576 := by have : Siz.size x.back = x.back.size := rfl; omega
  have h1 := ev_impl_ValidChecker c hz
  have v1 := ev_impl_ValidWord w (by omega)
  have v2 := ev_impl_ValidWord u (by omega)
  have v3 := ev_impl_ValidWord x.front (by omega)
  have v4 := ev_impl_ValidWord x.back (by omega)
  have m1 := ev_impl_isMatched w hw
  have m2 := ev_impl_isMatched u hu
  have r1 := ev_around x w hx1 hw hx2
  have r2 := ev_around x u hx1 hu hx2
  simp at h1 v1 v2 v3 v4 m1 m2 r1 r2
  unfold tellsA tellsOk
  cases c1 : okCk c
  · rw [c1] at h1; simp [ac_impl_TellsApart, h1]
  cases c2 : okWord w
  · rw [c2] at v1; rw [c1] at h1; simp [ac_impl_TellsApart, h1, v1]
  cases c3 : okWord u
  · rw [c2] at v1; rw [c1] at h1; rw [c3] at v2; simp [ac_impl_TellsApart, h1, v1, v2]
  cases c4 : okWord x.front
  · rw [c2] at v1; rw [c1] at h1; rw [c3] at v2; rw [c4] at v3; simp [ac_impl_TellsApart, h1, v1, v2, v3]
  cases c5 : okWord x.back
  · rw [c2] at v1; rw [c1] at h1; rw [c3] at v2; rw [c4] at v3; rw [c5] at v4; simp [ac_impl_TellsApart, h1, v1, v2, v3, v4]
  rw [c2] at v1; rw [c1] at h1; rw [c3] at v2; rw [c4] at v3; rw [c5] at v4
  cases d1 : isM w
  · rw [d1] at m1; simp [ac_impl_TellsApart, h1, v1, v2, v3, v4, m1]
  cases d2 : isM u
  · rw [d1] at m1; rw [d2] at m2; simp [ac_impl_TellsApart, h1, v1, v2, v3, v4, m1, m2]
  rw [d1] at m1; rw [d2] at m2
  have zz : x.front.size + w.size ≤ 9223372036854775807 ∧ x.front.size + w.size + x.back.size ≤ 9223372036854775807 ∧ x.front.size + u.size ≤ 9223372036854775807 ∧ x.front.size + u.size + x.back.size ≤ 9223372036854775807 := by omega
  by_cases q1 : x.front.size + w.size + x.back.size > 60
  · simp [ac_impl_TellsApart, h1, v1, v2, v3, v4, m1, m2, zz, ByteArray.size_append, r1, q1, show (60 : Int) < x.front.size + w.size + x.back.size by omega, show 60 < x.front.size + w.size + x.back.size by omega, show 60 < x.front.size + (w.size + x.back.size) by omega]
  by_cases q2 : x.front.size + u.size + x.back.size > 60
  · simp [ac_impl_TellsApart, h1, v1, v2, v3, v4, m1, m2, zz, ByteArray.size_append, r1, r2, q1, q2, show ¬ (60 : Int) < x.front.size + w.size + x.back.size by omega, show ¬ 60 < x.front.size + w.size + x.back.size by omega, show (60 : Int) < x.front.size + u.size + x.back.size by omega, show 60 < x.front.size + u.size + x.back.size by omega]
  have t1 := ev_Checker_takes c c1 (x.front ++ w ++ x.back) (symW_app (symW_app (okWord_symW c4) (okWord_symW c2)) (okWord_symW c5)) (by simp [ByteArray.size_append]; omega)
  have t2 := ev_Checker_takes c c1 (x.front ++ u ++ x.back) (symW_app (symW_app (okWord_symW c4) (okWord_symW c3)) (okWord_symW c5)) (by simp [ByteArray.size_append]; omega)
  simp at t1 t2
  simp [ac_impl_TellsApart, h1, v1, v2, v3, v4, m1, m2, zz, ByteArray.size_append, r1, r2, q1, q2, t1, t2, show ¬ (60 : Int) < x.front.size + w.size + x.back.size by omega, show ¬ 60 < x.front.size + w.size + x.back.size by omega, show ¬ (60 : Int) < x.front.size + u.size + x.back.size by omega, show ¬ 60 < x.front.size + u.size + x.back.size by omega]
set_option maxHeartbeats 2000000 in
theorem ev_spec_TellsApart (c : GChecker) (hz : Siz.size c ≤ 1048576) (w u : ByteArray) (hw : w.size ≤ 1048576) (hu : u.size ≤ 1048576) (x : GContext) (hx : Siz.size x ≤ 1048576) : ev fns i_spec_TellsApart [c.v, str w, str u, x.v] [] = some (.tup [bol (tellsA c w u x).1, i64 (tellsA c w u x).2], []) := by
  refine go_spec_TellsApart (by simp) ?_
  rw [size_Context] at hx
  have hx1 : x.front.size ≤ 1048576 := by have : Siz.size x.front = x.front.size := rfl; omega
  have hx2 : x.back.size ≤ 1048576 := by have : Siz.size x.back = x.back.size := rfl; omega
  have h1 := ev_spec_l02Ok c hz
  have v1 := ev_spec_l01Ok w (by omega)
  have v2 := ev_spec_l01Ok u (by omega)
  have v3 := ev_spec_l01Ok x.front (by omega)
  have v4 := ev_spec_l01Ok x.back (by omega)
  have m1 := ev_spec_l01Matched w hw
  have m2 := ev_spec_l01Matched u hu
  simp at h1 v1 v2 v3 v4 m1 m2
  unfold tellsA tellsOk
  cases c1 : okCk c
  · rw [c1] at h1; simp [ac_spec_TellsApart, h1]
  cases c2 : okWord w
  · rw [c2] at v1; rw [c1] at h1; simp [ac_spec_TellsApart, h1, v1]
  cases c3 : okWord u
  · rw [c2] at v1; rw [c1] at h1; rw [c3] at v2; simp [ac_spec_TellsApart, h1, v1, v2]
  cases c4 : okWord x.front
  · rw [c2] at v1; rw [c1] at h1; rw [c3] at v2; rw [c4] at v3; simp [ac_spec_TellsApart, h1, v1, v2, v3]
  cases c5 : okWord x.back
  · rw [c2] at v1; rw [c1] at h1; rw [c3] at v2; rw [c4] at v3; rw [c5] at v4; simp [ac_spec_TellsApart, h1, v1, v2, v3, v4]
  rw [c2] at v1; rw [c1] at h1; rw [c3] at v2; rw [c4] at v3; rw [c5] at v4
  cases d1 : isM w
  · rw [d1] at m1; simp [ac_spec_TellsApart, h1, v1, v2, v3, v4, m1]
  cases d2 : isM u
  · rw [d1] at m1; rw [d2] at m2; simp [ac_spec_TellsApart, h1, v1, v2, v3, v4, m1, m2]
  rw [d1] at m1; rw [d2] at m2
  have zz : x.front.size + w.size ≤ 9223372036854775807 ∧ x.front.size + w.size + x.back.size ≤ 9223372036854775807 ∧ x.front.size + u.size ≤ 9223372036854775807 ∧ x.front.size + u.size + x.back.size ≤ 9223372036854775807 := by omega
  have k1 := wrap_i64 (n := x.front.size + w.size) (by omega)
  have k2 := wrap_i64 (n := x.front.size + w.size + x.back.size) (by omega)
  have k3 := wrap_i64 (n := x.front.size + u.size) (by omega)
  have k4 := wrap_i64 (n := x.front.size + u.size + x.back.size) (by omega)
  by_cases q1 : x.front.size + w.size + x.back.size > 60
  · simp [ac_spec_TellsApart, h1, v1, v2, v3, v4, m1, m2, zz, ByteArray.size_append, q1, k1, k2, show (60 : Int) < x.front.size + w.size + x.back.size by omega, show 60 < x.front.size + w.size + x.back.size by omega]
  by_cases q2 : x.front.size + u.size + x.back.size > 60
  · simp [ac_spec_TellsApart, h1, v1, v2, v3, v4, m1, m2, zz, ByteArray.size_append, q1, q2, k1, k2, k3, k4, show ¬ (60 : Int) < x.front.size + w.size + x.back.size by omega, show ¬ 60 < x.front.size + w.size + x.back.size by omega, show (60 : Int) < x.front.size + u.size + x.back.size by omega, show 60 < x.front.size + u.size + x.back.size by omega]
  have t1 := ev_spec_l02Takes c c1 (x.front ++ w ++ x.back) (symW_app (symW_app (okWord_symW c4) (okWord_symW c2)) (okWord_symW c5)) (by simp [ByteArray.size_append]; omega)
  have t2 := ev_spec_l02Takes c c1 (x.front ++ u ++ x.back) (symW_app (symW_app (okWord_symW c4) (okWord_symW c3)) (okWord_symW c5)) (by simp [ByteArray.size_append]; omega)
  simp at t1 t2
  simp [ac_spec_TellsApart, h1, v1, v2, v3, v4, m1, m2, zz, ByteArray.size_append, q1, q2, t1, t2, k1, k2, k3, k4, show ¬ (60 : Int) < x.front.size + w.size + x.back.size by omega, show ¬ 60 < x.front.size + w.size + x.back.size by omega, show ¬ (60 : Int) < x.front.size + u.size + x.back.size by omega, show ¬ 60 < x.front.size + u.size + x.back.size by omega]

/-! ### The law FnExactTellsApart, run. -/
theorem dep_Checker : Own.dep GChecker ≤ 9 := by decide
set_option maxHeartbeats 4000000 in
theorem ev_FnExactTellsApart (a : GChecker) (w u : ByteArray) (x : GContext) (fa : Siz.fits a) (fw : Siz.fits w) (fu : Siz.fits u) (fx : Siz.fits x) : ev fns i_laws_FnExactTellsApart [a.v, str w, str u, x.v] [] = some (bol true, []) := by
  refine go_laws_FnExactTellsApart (by simp) ?_
  by_cases cw : (w.size : Int) ≤ 1048576
  · by_cases cu : (u.size : Int) ≤ 1048576
    · have e1 := ev_laws_szChecker a 1048576 (by omega) (by omega) fa
      by_cases c1 : (Siz.size a : Int) ≤ 1048576
      · rw [szR_ok c1] at e1
        have e2 := ev_laws_szContext x (1048576 - Siz.size a) (by omega) (by omega) fx
        have s1 := fun σ => callN_lone (σ := σ) (by simp [PV.bels]) e1 (by simp)
        by_cases c2 : (Siz.size x : Int) ≤ 1048576 - Siz.size a
        · rw [szR_ok c2] at e2
          have s2 := fun σ => callN_lone (σ := σ) (by simp [PV.bels]) e2 (by simp)
          have s3 := fun σ => callN_lone (σ := σ) (by simp [PV.bels]) (ev_laws_toContext x (by omega)) (by simp)
          obtain ⟨p1, τ1, ids1, a1, o1, _, _, g1, b1⟩ := toC_Checker.callS a (by omega) [] GoodN.nil
          obtain ⟨q1, d1, y1⟩ := o1.read dep_Checker
          replace y1 : PV.ty (.agg [.any, .any, (.lst 1 .any), (.lst 1 (.lst 2 .any)), (.lst 1 (.lst 1 (.lst 1 .any))), (.lst 1 (.lst 1 .any))]) q1 = a.v := y1
          have n1 := Own.nl o1.own
          have s4 := callT_readL (ss := [(.agg [.any, .any, (.lst 1 .any), (.lst 1 (.lst 2 .any)), (.lst 1 (.lst 1 (.lst 1 .any))), (.lst 1 (.lst 1 .any))]), .any, .any, .any]) (args := [p1, str w, str u, x.v]) (qs := [q1, str w, str u, x.v]) (σ := τ1) (by simp [mapO, d1, dfr]) (by simp only [PV.tys, y1]; exact ev_spec_TellsApart a (by omega) w u (by omega) (by omega) x (by omega)) (by simp) (by simp [PV.nl, PV.nls])
          obtain ⟨p2, τ2, ids2, a2, o2, _, _, g2, b2⟩ := toC_Checker.callS a (by omega) τ1 g1
          obtain ⟨i0, r0, i1, r1, i2, r2, i3, r3, i4, r4, i5, r5, rfl, rfl, ⟨rfl, rfl⟩, ⟨rfl, rfl⟩, h2, h3, h4, h5⟩ := o2.own
          have kn2 := (own_one h2).2.2.2
          have kn3 := (own_one h3).2.2.2
          have kn4 := (own_one h4).2.2.2
          have kn5 := (own_one h5).2.2.2
          have g3 : GoodN (τ2 ++ [.row 6 [.agg [Enc.pv a.stack, Enc.pv a.start, r2, r3, r4, r5]] 0]) := g2.snoc (by simp only [PV.bels, Bool.and_true]; exact o2.bel) (by simp only [PV.nls, Bool.and_true]; exact Own.nl o2.own)
          have o3 := o2.grow [.row 6 [.agg [Enc.pv a.stack, Enc.pv a.start, r2, r3, r4, r5]] 0]
          obtain ⟨q3, d3, y3⟩ := o3.read dep_Checker
          replace y3 : PV.ty (.agg [.any, .any, (.lst 1 .any), (.lst 1 (.lst 2 .any)), (.lst 1 (.lst 1 (.lst 1 .any))), (.lst 1 (.lst 1 .any))]) q3 = a.v := y3
          have s5 := callT_readL (ss := [(.agg [.any, .any, (.lst 1 .any), (.lst 1 (.lst 2 .any)), (.lst 1 (.lst 1 (.lst 1 .any))), (.lst 1 (.lst 1 .any))]), .any, .any, .any]) (args := [(.agg [Enc.pv a.stack, Enc.pv a.start, r2, r3, r4, r5]), str w, str u, x.v]) (qs := [q3, str w, str u, x.v]) (σ := τ2 ++ [.row 6 [(.agg [Enc.pv a.stack, Enc.pv a.start, r2, r3, r4, r5])] 0]) (by simp only [mapO, d3]; simp [dfr, mapO]) (by simp only [PV.tys, y3]; exact ev_impl_TellsApart a (by omega) w u (by omega) (by omega) x (by omega)) (by simp) (by simp [PV.nl, PV.nls])
          obtain ⟨p4, τ4, ids4, a4, o4, _, ⟨m4, e4⟩, g4, b4⟩ := toC_Checker.callS a (by omega) _ g3
          obtain ⟨q4, d4, y4⟩ := o4.read dep_Checker
          replace y4 : PV.ty (.agg [.any, .any, (.lst 1 .any), (.lst 1 (.lst 2 .any)), (.lst 1 (.lst 1 (.lst 1 .any))), (.lst 1 (.lst 1 .any))]) q4 = a.v := y4
          have o5 := o3.grow m4
          rw [← e4] at o5
          obtain ⟨q5, d5, y5⟩ := o5.read dep_Checker
          replace y5 : PV.ty (.agg [.any, .any, (.lst 1 .any), (.lst 1 (.lst 2 .any)), (.lst 1 (.lst 1 (.lst 1 .any))), (.lst 1 (.lst 1 .any))]) q5 = a.v := y5
          have s6 := callT_readL (fns := fns) (f := i_laws_eqChecker) (ss := [(.agg [.any, .any, (.lst 1 .any), (.lst 1 (.lst 2 .any)), (.lst 1 (.lst 1 (.lst 1 .any))), (.lst 1 (.lst 1 .any))]), (.agg [.any, .any, (.lst 1 .any), (.lst 1 (.lst 2 .any)), (.lst 1 (.lst 1 (.lst 1 .any))), (.lst 1 (.lst 1 .any))])]) (args := [(.agg [Enc.pv a.stack, Enc.pv a.start, r2, r3, r4, r5]), p4]) (qs := [q5, q4]) (σ := τ4) (by simp only [mapO, d5, d4]) (by simp only [PV.tys, y5, y4]; exact ev_laws_eqChecker a a (by omega)) (by simp) (by simp [PV.nl])
          have z4 : τ4[τ2.length]? = some (.row 6 [.agg [Enc.pv a.stack, Enc.pv a.start, r2, r3, r4, r5]] 0) := by
            rw [e4, List.getElem?_append_left (by simp)]; simp
          have G1 := g1.1
          have G2 := g2.1
          have G3 := g3.1
          have G4 := g4.1
          unfold Good at G1 G2 G3 G4
          simp [-callN, -callT] at s1 s2 s3 s4 s5 s6 a1 a2 a4 kn2 kn3 kn4 kn5 z4 G3
          simp [-callN, -callT, ac_laws_FnExactTellsApart, cw, cu, show ¬ 1048576 < (w.size : Int) by omega, show ¬ 1048576 < w.size by omega, show ¬ 1048576 < (u.size : Int) by omega, show ¬ 1048576 < u.size by omega, s1, s2, s3, s4, s5, s6, a1, a2, a4, kn2, kn3, kn4, kn5, z4, G1, G2, G3, G4, show ¬ ((1048576 : Int) - Siz.size a < 0) by omega, show ¬ ((1048576 : Int) - Siz.size a - Siz.size x < 0) by omega]
        · rw [szR_no (by omega)] at e2
          have s2 := fun σ => callN_lone (σ := σ) (by simp [PV.bels]) e2 (by simp)
          simp [-callN, -callT] at s1 s2
          simp [-callN, -callT, ac_laws_FnExactTellsApart, cw, cu, show ¬ 1048576 < (w.size : Int) by omega, show ¬ 1048576 < w.size by omega, show ¬ 1048576 < (u.size : Int) by omega, show ¬ 1048576 < u.size by omega, s1, s2, show ¬ ((1048576 : Int) - Siz.size a < 0) by omega]
      · rw [szR_no (by omega)] at e1
        have s1 := fun σ => callN_lone (σ := σ) (by simp [PV.bels]) e1 (by simp)
        simp [-callN, -callT] at s1
        simp [-callN, -callT, ac_laws_FnExactTellsApart, cw, cu, show ¬ 1048576 < (w.size : Int) by omega, show ¬ 1048576 < w.size by omega, show ¬ 1048576 < (u.size : Int) by omega, show ¬ 1048576 < u.size by omega, s1]
    · simp [ac_laws_FnExactTellsApart, cw, show ¬ 1048576 < (w.size : Int) by omega, show ¬ 1048576 < w.size by omega, show 1048576 < (u.size : Int) by omega, show 1048576 < u.size by omega]
  · simp [ac_laws_FnExactTellsApart, show 1048576 < (w.size : Int) by omega, show 1048576 < w.size by omega]
end Go.Proofs.Ytegjfjckijmgcaa
