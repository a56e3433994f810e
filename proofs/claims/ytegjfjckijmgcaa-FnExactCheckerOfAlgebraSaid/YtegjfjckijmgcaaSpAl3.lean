/- The checker of an algebra: the reference's run, its states. -/
import Derived.Test.YtegjfjckijmgcaaSpAl2
set_option linter.unusedVariables false
set_option linter.unusedSimpArgs false
set_option maxRecDepth 100000
namespace Go.Proofs.Ytegjfjckijmgcaa
open Aw
theorem lo_sp_1 {a : GAlgebra} (ha : AlL a) (hw : AlW a) (st : Nat) (hst : st ≤ caL a) {σ : List AObj} {va ka vb kb vr kr vi ki : Nat} (hc : σ[1]? = some (ckQ (ckS a : Nat) 0 va ka vb kb vr kr vi ki)) (g : Good σ) (n : Nl [] σ) :
    ∃ s' : List AObj × Nat, (∀ ks, rE fns fa_spec_CheckerOfAlgebra 0 (.code lo_spec_CheckerOfAlgebra_1 :: .inBlock 2 :: ks) [(10, i64 0), (9, .own σ.length 0 0 0), (7, i64 (st : Nat)), (6, .ptr 1 0 0 0), (5, i64 (caL a)), (4, i64 a.accept.length), (2, .ptr 0 0 0 0), (1, AgP a)] (σ ++ [.row 1 [] 0]) =
      rE fns fa_spec_CheckerOfAlgebra 0 ks [(9, .own σ.length s'.2 0 2), (7, i64 (st : Nat)), (6, .ptr 1 0 0 0), (5, i64 (caL a)), (4, i64 a.accept.length), (2, .ptr 0 0 0 0), (1, AgP a)] s'.1) ∧ PpI σ (fun k => (List.range (ckS a + 1)).map (caB a st k)) 2 s' := by
  obtain ⟨s1, k1, h1⟩ := loop_known (F := P1 a st σ.length) (n := 2) (I := PpI σ (fun k => (List.range (ckS a + 1)).map (caB a st k))) (fun m s hm hi => ro_sp_1 ha hw st hst hc m s hm hi) (PpI.start _ g n)
  refine ⟨s1, fun ks => ?_, h1⟩
  have e := congrFun k1 ks
  unfold P1 at e
  have hc1 := h1.e.get hc
  have e2 : rE fns fa_spec_CheckerOfAlgebra 0 (.code lo_spec_CheckerOfAlgebra_1 :: .inBlock 2 :: ks) [(10, i64 (2 : Nat)), (9, .own σ.length s1.2 0 2), (7, i64 (st : Nat)), (6, .ptr 1 0 0 0), (5, i64 (caL a)), (4, i64 a.accept.length), (2, .ptr 0 0 0 0), (1, AgP a)] s1.1 =
      rE fns fa_spec_CheckerOfAlgebra 0 ks [(9, .own σ.length s1.2 0 2), (7, i64 (st : Nat)), (6, .ptr 1 0 0 0), (5, i64 (caL a)), (4, i64 a.accept.length), (2, .ptr 0 0 0 0), (1, AgP a)] s1.1 := by
    rw [l_spec_CheckerOfAlgebra_1]
    simp at hc1
    simp [lb_spec_CheckerOfAlgebra_1, hc1]
  rw [e2] at e
  simpa using e
noncomputable def P2 (a : GAlgebra) (st : Nat) (id : Nat) (k : Nat) (s : List AObj × Nat) (ks : List KI) : Option (PV × List AObj) :=
  rE fns fa_spec_CheckerOfAlgebra 0 (.code lo_spec_CheckerOfAlgebra_2 :: .inBlock 6 :: ks) [(16, i64 (k : Nat)), (15, .own id s.2 0 k), (7, i64 (st : Nat)), (6, .ptr 1 0 0 0), (5, i64 (caL a)), (4, i64 a.accept.length), (2, .ptr 0 0 0 0), (1, AgP a)] s.1
set_option maxHeartbeats 8000000 in
theorem ro_sp_2 {a : GAlgebra} (ha : AlL a) (hw : AlW a) (st : Nat) (hst : st ≤ caL a) {σ0 : List AObj} (id : Nat) (k : Nat) (s : List AObj × Nat) (hk : k < 2) (hi : FlI σ0 id (caI a st) k s) :
    ∃ s' : List AObj × Nat, P2 a st id k s = P2 a st id (k + 1) s' ∧ FlI σ0 id (caI a st) (k + 1) s' := by
  obtain ⟨σ, v⟩ := s
  refine ⟨_, ?_, hi.push (nl_int _)⟩
  have h1 := hi.l.at
  have hn := ha.n
  have hw1 := wrap_i64 (n := k + 1) (by omega)
  have b1 : (k + 1) * 8 ≤ 140737488355328 := by omega
  have hk2 : (k : Int) < 2 := by omega
  funext ks
  unfold P2
  rw [l_spec_CheckerOfAlgebra_2]
  unfold caI at *
  by_cases c : st = caL a
  · simp only [if_pos c] at h1 ⊢
    have c' : ¬ (st < caL a) := by omega
    simp [-callN] at h1
    simp [-callN, lb_spec_CheckerOfAlgebra_2, h1, hk, hk2, c', hw1, b1]
    done
  · simp only [if_neg c] at h1 ⊢
    have hv := ha.val; have hr := ha.row; have iv := hw.iv
    have m0 : st % a.accept.length < a.accept.length := Nat.mod_lt _ (by omega)
    have q0 : st / a.accept.length ≤ 80 := Nat.le_trans (Nat.div_le_self _ _) (by unfold caL at hst; omega)
    have q1 : st / a.accept.length * a.accept.length ≤ st := Nat.div_mul_le_self _ _
    have i0 := hw.it k hk
    have p0 := ha.lt _ _ m0 i0
    have e1 := tq st a.accept.length
    have e2 := tr st a.accept.length
    have c' : st < caL a := by omega
    have hst' := hst
    unfold caL at hst'
    have n0 : ¬ ((a.accept.length : Int) = 0) := by omega
    have n1 : ¬ a.accept = [] := fun h => by rw [h] at n0; simp at n0
    generalize st / a.accept.length = q at *
    generalize st % a.accept.length = m at *
    generalize hz : q * a.accept.length = z at *
    have hz' : (q : Int) * (a.accept.length : Int) = (z : Int) := by rw [← hz]; simp
    have w0 := wrap_i64 (n := (q : Int)) (by omega)
    have w1 := wrap_i64 (n := (z : Int)) (by omega)
    have w2 := wrap_i64 (n := (gN a m (iN a k) : Nat) + (z : Int)) (by omega)
    have e3 : (z : Int) + (gN a m (iN a k) : Nat) = (gN a m (iN a k) : Nat) + (z : Int) := by omega
    simp [-callN] at h1
    simp [-callN, lb_spec_CheckerOfAlgebra_2, h1, hk, hk2, c', e1, e2, e3, n0, n1, ha.pl, hw.il, m0, hr, hv, iv, i0, w0, w1, w2, hz', hw1, b1]
    done
theorem lo_sp_2 {a : GAlgebra} (ha : AlL a) (hw : AlW a) (st : Nat) (hst : st ≤ caL a) {σ : List AObj} (g : Good σ) (n : Nl [] σ) :
    ∃ s' : List AObj × Nat, (∀ ks, rE fns fa_spec_CheckerOfAlgebra 0 (.code lo_spec_CheckerOfAlgebra_2 :: .inBlock 6 :: ks) [(16, i64 0), (15, .own σ.length 0 0 0), (7, i64 (st : Nat)), (6, .ptr 1 0 0 0), (5, i64 (caL a)), (4, i64 a.accept.length), (2, .ptr 0 0 0 0), (1, AgP a)] (σ ++ [.row 1 [] 0]) =
      rE fns fa_spec_CheckerOfAlgebra 0 ks [(15, .own σ.length s'.2 0 2), (7, i64 (st : Nat)), (6, .ptr 1 0 0 0), (5, i64 (caL a)), (4, i64 a.accept.length), (2, .ptr 0 0 0 0), (1, AgP a)] s'.1) ∧ FlI σ σ.length (caI a st) 2 s' := by
  obtain ⟨s1, k1, h1⟩ := loop_known (F := P2 a st σ.length) (n := 2) (I := FlI σ σ.length (caI a st)) (fun m s hm hi => ro_sp_2 ha hw st hst σ.length m s hm hi) (FlI.start _ g n)
  refine ⟨s1, fun ks => ?_, h1⟩
  have e := congrFun k1 ks
  unfold P2 at e
  have e2 : rE fns fa_spec_CheckerOfAlgebra 0 (.code lo_spec_CheckerOfAlgebra_2 :: .inBlock 6 :: ks) [(16, i64 (2 : Nat)), (15, .own σ.length s1.2 0 2), (7, i64 (st : Nat)), (6, .ptr 1 0 0 0), (5, i64 (caL a)), (4, i64 a.accept.length), (2, .ptr 0 0 0 0), (1, AgP a)] s1.1 =
      rE fns fa_spec_CheckerOfAlgebra 0 ks [(15, .own σ.length s1.2 0 2), (7, i64 (st : Nat)), (6, .ptr 1 0 0 0), (5, i64 (caL a)), (4, i64 a.accept.length), (2, .ptr 0 0 0 0), (1, AgP a)] s1.1 := by
    rw [l_spec_CheckerOfAlgebra_2]
    simp [lb_spec_CheckerOfAlgebra_2]
  rw [e2] at e
  simpa using e
noncomputable def P3 (a : GAlgebra) (k : Nat) (s : S4) (ks : List KI) : Option (PV × List AObj) :=
  rE fns fa_spec_CheckerOfAlgebra 0 (.code lo_spec_CheckerOfAlgebra_3 :: .inBlock 0 :: ks) [(7, i64 (k : Nat)), (6, .ptr 1 0 0 0), (5, i64 (caL a)), (4, i64 a.accept.length), (2, .ptr 0 0 0 0), (1, AgP a)] s.1
abbrev SpI (a : GAlgebra) (k : Nat) (s : S4) : Prop := BtQ (caA a) (fun s => (List.range 2).map (caC a s)) (fun s => (List.range 2).map fun k => (List.range (ckS a + 1)).map (caB a s k)) (fun s => (List.range 2).map (caI a s)) (ckS a : Nat) 0 k k k k s
set_option maxHeartbeats 32000000 in
theorem ro_sp_3 {a : GAlgebra} (ha : AlL a) (hw : AlW a) (k : Nat) (s : S4) (hk : k < caL a + 1) (hi : SpI a k s) : ∃ s' : S4, P3 a k s = P3 a (k + 1) s' ∧ SpI a (k + 1) s' := by
  obtain ⟨σ, va, vb, vr, vi⟩ := s
  have hn := ha.n
  have hst : k ≤ caL a := by omega
  -- what is accepted
  obtain ⟨σa1, σ1, x1, x2, x3, x4, x5, h1⟩ := hi.pushA
  -- what is called
  have hg1 := h1.g; have hn1 := h1.n
  simp only at hg1 hn1
  have l1 : Lst (σ1 ++ [.row 2 [Enc.pv (caC a k 0), Enc.pv (caC a k 1)] 0]) σ1.length 0 [Enc.pv (caC a k 0), Enc.pv (caC a k 1)] [σ1.length] ((List.range 2).map (caC a k)) :=
    ⟨by simp, rfl, ⟨[[], []], rfl, (own_flatE _ (caC a k 0)).own, (own_flatE _ (caC a k 1)).own, trivial⟩, by simp, by simp⟩
  have o1 := l1.own (by simp)
  obtain ⟨es2, σa2, σ2, y1, y2, y3, y4, y5, y6, h2⟩ := h1.pushB (Ext.snoc _ _) (Good.snoc hg1 (by simp [PV.bels, PV.bel])) (hn1.app (by simp [AObj.nl, PV.nls, PV.nl])) o1 (by simp) (by simp [PV.nl])
  -- what is returned
  have hg2 := h2.g; have hn2 := h2.n; have hc2 := h2.r1
  simp only at hg2 hn2 hc2
  obtain ⟨⟨τ3, v3⟩, k3, p3⟩ := lo_sp_1 ha hw k hst hc2 hg2 hn2
  obtain ⟨⟨es3, ids3, q3, d3⟩, e3, g3, n3⟩ := p3
  simp only at q3 e3 g3 n3
  have o3 := q3.own (by simp)
  obtain ⟨es4, σa3, σ3, z1, z2, z3, z4, z5, z6, h3⟩ := h2.pushR e3 g3 n3 o3 d3 (by simp [PV.nl])
  -- the inner moves
  have hg3 := h3.g; have hn3 := h3.n
  simp only at hg3 hn3
  obtain ⟨⟨τ4, v4⟩, k4, p4⟩ := lo_sp_2 ha hw k hst hg3 hn3
  have o4 := p4.l.own (by simp)
  obtain ⟨es5, σa4, σ4, u1, u2, u3, u4, u5, u6, h4⟩ := h3.pushI p4.e p4.g p4.n o4 (by simp) (by simp [PV.nl])
  refine ⟨(σ4, va + 1, vb + 1, vr + 1, vi + 1), ?_, h4⟩
  funext ks
  unfold P3
  have hc1 := h1.r1
  have hc3 := h3.r1
  simp only at hc1 hc3
  have hst2 : k ≤ 2 * a.accept.length := hst
  have hwk := wrap_i64 (n := k + 1) (by omega)
  have w2 := wrap_i64 (n := 2 * (k : Int)) (by omega)
  have w3 := wrap_i64 (n := 2 * (k : Int) + 1) (by omega)
  have hkn : (k : Int) ≤ caL a := by omega
  have bb : (k + 1) * 24 ≤ 140737488355328 ∧ (k + 1) * 1 ≤ 140737488355328 ∧ k + 1 ≤ 140737488355328 := by omega
  have n0 : ¬ ((a.accept.length : Int) = 0) := by omega
  have n1 : ¬ a.accept = [] := fun h => by rw [h] at n0; simp at n0
  rw [l_spec_CheckerOfAlgebra_3]
  simp [-callN] at x1 x2 x3 x4 x5 y1 y2 y3 y4 y5 y6 z1 z2 z3 z4 z5 z6 u1 u2 u3 u4 u5 u6 k3 k4 hc1 hc2 hc3
  by_cases c : k < a.accept.length
  · have c2 : ¬ k = caL a := by unfold caL; omega
    have c2' : ¬ (k : Int) = caL a := by omega
    have e2 : (k : Int).tmod a.accept.length = k := by rw [tr, Nat.mod_eq_of_lt c]
    have hA : caA a k = a.accept[k] := by unfold caA; simp [c, List.getD_eq_getElem?_getD]
    simp [-callN, caC, caT, c2, hA] at x3 y1 y3 y4
    simp [-callN, lb_spec_CheckerOfAlgebra_3, c, c2', hkn, e2, n0, n1, x1, x2, x3, x4, x5, y1, y2, y3, y4, y5, y6, z1, z2, z3, z4, z5, z6, u1, u2, u3, u4, u5, u6, k3, k4, hc1, hc2, hc3, hwk, w2, w3, bb, setCells]
    done
  · have hA : caA a k = false := by unfold caA; simp [c]
    by_cases c2 : k = caL a
    · subst c2
      simp [-callN, caC, caT, hA] at x3 y1 y3 y4
      simp [-callN, lb_spec_CheckerOfAlgebra_3, c, n0, n1, x1, x2, x3, x4, x5, y1, y2, y3, y4, y5, y6, z1, z2, z3, z4, z5, z6, u1, u2, u3, u4, u5, u6, k3, k4, hc1, hc2, hc3, hwk, w2, w3, bb, setCells]
      done
    · have c2' : ¬ (k : Int) = caL a := by omega
      simp [-callN, caC, caT, c2, hA] at x3 y1 y3 y4
      simp [-callN, lb_spec_CheckerOfAlgebra_3, c, c2', hkn, n0, n1, x1, x2, x3, x4, x5, y1, y2, y3, y4, y5, y6, z1, z2, z3, z4, z5, z6, u1, u2, u3, u4, u5, u6, k3, k4, hc1, hc2, hc3, hwk, w2, w3, bb, setCells]
      done

theorem lo_sp_3 {a : GAlgebra} (ha : AlL a) (hw : AlW a) : ∃ s' : S4, (∀ ks, rE fns fa_spec_CheckerOfAlgebra 0 (.code lo_spec_CheckerOfAlgebra_3 :: .inBlock 0 :: ks) [(7, i64 0), (6, .ptr 1 0 0 0), (5, i64 (caL a)), (4, i64 a.accept.length), (2, .ptr 0 0 0 0), (1, AgP a)] [.row 6 [zCk] 0, ckQ (ckS a : Nat) 0 0 0 0 0 0 0 0 0, .row 1 [] 0, .row 1 [] 0, .row 1 [] 0, .row 1 [] 0] =
      rE fns fa_spec_CheckerOfAlgebra 0 ks [(6, .ptr 1 0 0 0), (2, .ptr 0 0 0 0)] s'.1) ∧ SpI a (caL a + 1) s' := by
  obtain ⟨s1, k1, h1⟩ := loop_known (F := P3 a) (n := caL a + 1) (I := SpI a) (fun m s hm hi => ro_sp_3 ha hw m s hm hi) (BtQ.start _ _ _ _ _ _)
  refine ⟨s1, fun ks => ?_, h1⟩
  have e := congrFun k1 ks
  unfold P3 at e
  have e2 : rE fns fa_spec_CheckerOfAlgebra 0 (.code lo_spec_CheckerOfAlgebra_3 :: .inBlock 0 :: ks) [(7, i64 (caL a + 1 : Nat)), (6, .ptr 1 0 0 0), (5, i64 (caL a)), (4, i64 a.accept.length), (2, .ptr 0 0 0 0), (1, AgP a)] s1.1 =
      rE fns fa_spec_CheckerOfAlgebra 0 ks [(6, .ptr 1 0 0 0), (2, .ptr 0 0 0 0)] s1.1 := by
    rw [l_spec_CheckerOfAlgebra_3]
    simp [lb_spec_CheckerOfAlgebra_3, show ¬ ((caL a : Int) + 1 ≤ caL a) by omega]
  rw [e2] at e
  simpa using e
set_option maxHeartbeats 8000000 in
theorem spC_CheckerOfAlgebra (a : GAlgebra) (hz : Siz.size a ≤ 1048576) : ∃ q, ev fns i_spec_CheckerOfAlgebra [a.v] [] = some (.tup [q, i64 (caK a)], []) ∧ q.bel 0 = true ∧ PV.ty (Own.sh GChecker) q = Enc.pv (caX a) := by
  have hv := ev_spec_l04Ok a hz
  unfold caK caX
  cases c1 : okAl a
  · rw [c1] at hv
    simp at hv
    refine ⟨zCk, go_spec_CheckerOfAlgebra (by simp) ?_, ?_, ?_⟩
    · simp [ac_spec_CheckerOfAlgebra, hv, setCells, dfr, mapO]
      done
    · simp [PV.bel, PV.bels]
    · rfl
  · rw [c1] at hv
    have ha := lsOk_al (okAl_ls c1)
    have hw := lsOk_aw (okAl_ls c1)
    have hn := ha.n
    have w1 := wrap_i64 (n := 2 * (a.accept.length : Int)) (by omega)
    have w2 := wrap_i64 (n := 2 * (a.accept.length : Int) + 1) (by omega)
    have w3 := wrap_i64 (n := 4 * (a.accept.length : Int)) (by omega)
    have w4 := wrap_i64 (n := 4 * (a.accept.length : Int) + 2) (by omega)
    simp at hv
    cases c2 : ckBig a
    · unfold ckBig at c2
      simp only [Bool.or_eq_false_iff, decide_eq_false_iff_not] at c2
      have d1 : ¬ (40 : Int) < 2 * (a.accept.length : Int) + 1 := by omega
      have d2 : ¬ (80 : Int) < 4 * (a.accept.length : Int) + 2 := by omega
      obtain ⟨⟨σ, va, vb, vr, vi⟩, k1, hi⟩ := lo_sp_3 ha hw
      have hS : ((ckS a : Nat) : Int) = 4 * (a.accept.length : Int) + 2 := by unfold ckS; omega
      have hL : ((caL a : Nat) : Int) = 2 * (a.accept.length : Int) := by unfold caL; omega
      obtain ⟨r0, r1, ha', ⟨eb, ib, er, ir, ei, ii, hb, hr, hii, db, dr, di, dbr, dbi, dri⟩, hl6, hg, hnl⟩ := hi
      simp only at r0 r1 ha' hb hr hii hl6 hg hnl
      have K := Keep.set σ 0 (ckQ (ckS a : Nat) 0 va (caL a + 1) vb (caL a + 1) vr (caL a + 1) vi (caL a + 1))
      have bL : caL a + 1 ≤ 100 := by unfold caL; omega
      have oa := K.own (ha'.own (by simp; omega)) (by simp)
      have ob := K.own (hb.own (by simp; omega)) (fun i hi hj => by simp at hj; have := db i hi; omega)
      have or_ := K.own (hr.own (by simp; omega)) (fun i hi hj => by simp at hj; have := dr i hi; omega)
      have oi := K.own (hii.own (by simp; omega)) (fun i hi hj => by simp at hj; have := di i hi; omega)
      simp only [List.length_map, List.length_range] at oa ob or_ oi
      have o : Own.own (σ.set 0 (ckQ (ckS a : Nat) 0 va (caL a + 1) vb (caL a + 1) vr (caL a + 1) vi (caL a + 1))) ([] ++ [] ++ [2] ++ ib ++ ir ++ ii) (.agg [i64 (ckS a : Nat), i64 0, .own 2 va 0 (caL a + 1), .own 3 vb 0 (caL a + 1), .own 4 vr 0 (caL a + 1), .own 5 vi 0 (caL a + 1)]) (ckOf a) :=
        own_Checker.2 ⟨[], _, [], _, [2], _, ib, _, ir, _, ii, _, rfl, rfl, ⟨rfl, rfl⟩, ⟨rfl, rfl⟩, oa.own, ob.own, or_.own, oi.own⟩
      obtain ⟨q, hq, hty⟩ := Own.read o 8 (by decide)
      have hd : dfr (σ.set 0 (ckQ (ckS a : Nat) 0 va (caL a + 1) vb (caL a + 1) vr (caL a + 1) vi (caL a + 1))) 9 (.tup [.agg [i64 (ckS a : Nat), i64 0, .own 2 va 0 (caL a + 1), .own 3 vb 0 (caL a + 1), .own 4 vr 0 (caL a + 1), .own 5 vi 0 (caL a + 1)], i64 0]) = some (.tup [q, i64 0]) := by
        show (mapO (dfr _ 8) _).map PV.tup = _
        simp only [mapO, hq]
        simp [dfr]
      refine ⟨q, go_spec_CheckerOfAlgebra (by simp) ?_, ?_, hty⟩
      · have gg : Good (σ.set 0 (ckQ (ckS a : Nat) 0 va (caL a + 1) vb (caL a + 1) vr (caL a + 1) vi (caL a + 1))) := Good.set hg _ _ _ (by simp [PV.bels, PV.bel]; omega)
        unfold Good at gg
        have q0 : ∀ r, (σ.set 0 r)[0]? = some r := fun r => List.getElem?_set_self (by omega)
        simp [-dfr, hS, hL] at k1 r0 r1 gg q0 hd
        simp [-dfr, ac_spec_CheckerOfAlgebra, hv, w1, w2, w3, w4, d1, d2, k1, r0, r1, gg, q0, hd, show 2 < σ.length by omega, show 3 < σ.length by omega, show 4 < σ.length by omega, show 5 < σ.length by omega, setCells]
        done
      · exact dfr_bel hq
    · unfold ckBig at c2
      simp only [Bool.or_eq_true, decide_eq_true_eq] at c2
      refine ⟨zCk, go_spec_CheckerOfAlgebra (by simp) ?_, ?_, ?_⟩
      · have c3 : (40 : Int) < 2 * (a.accept.length : Int) + 1 ∨ ¬ (40 : Int) < 2 * (a.accept.length : Int) + 1 := by omega
        rcases c3 with c3 | c3
        · simp [ac_spec_CheckerOfAlgebra, hv, w1, w2, w3, w4, c3, setCells, dfr, mapO]
          done
        · have c4 : (80 : Int) < 4 * (a.accept.length : Int) + 2 := by omega
          simp [ac_spec_CheckerOfAlgebra, hv, w1, w2, w3, w4, c3, c4, setCells, dfr, mapO]
          done
      · simp [PV.bel, PV.bels]
      · rfl
end Go.Proofs.Ytegjfjckijmgcaa
