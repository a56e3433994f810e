/- The checker of an algebra: the reference's run. -/
import Derived.Test.YtegjfjckijmgcaaSpAl
set_option linter.unusedVariables false
set_option linter.unusedSimpArgs false
set_option maxRecDepth 100000
namespace Go.Proofs.Ytegjfjckijmgcaa
open Aw
def ckS (a : GAlgebra) : Nat := 2 * (2 * a.accept.length + 1)
noncomputable def P0 (a : GAlgebra) (st j : Nat) (id : Nat) (m : Nat) (s : List AObj × Nat) (ks : List KI) (a9 : PV) : Option (PV × List AObj) :=
  rE fns fa_spec_CheckerOfAlgebra 0 (.code lo_spec_CheckerOfAlgebra_0 :: .inBlock 4 :: ks) [(12, i64 (m : Nat)), (11, .own id s.2 0 m), (10, i64 (j : Nat)), (9, a9), (7, i64 (st : Nat)), (6, .ptr 1 0 0 0), (5, i64 (caL a)), (4, i64 a.accept.length), (2, .ptr 0 0 0 0), (1, AgP a)] s.1
theorem caB_in {a : GAlgebra} {st j m : Nat} (h1 : a.accept.length ≤ st) (h2 : st < caL a) (h3 : m / 2 < caL a) :
    caB a st j m = ((gN a (m / 2 % a.accept.length) (wN a (2 * (m % 2) + j) (st - a.accept.length)) : Nat) : Int) + ((m / 2 / a.accept.length * a.accept.length : Nat) : Int) := by
  unfold caB
  rw [if_neg (by omega)]
  congr 1
  unfold caL at h3 h2
  generalize m / 2 = q at *
  by_cases c : a.accept.length ≤ q
  · rw [if_pos c]
    have : q / a.accept.length = 1 := Nat.div_eq_of_lt_le (by omega) (by omega)
    rw [this]; omega
  · rw [if_neg c]
    have : q / a.accept.length = 0 := Nat.div_eq_of_lt (by omega)
    rw [this]; omega
theorem caB_out {a : GAlgebra} {st j m : Nat} (hs : st ≤ caL a) (h : ¬ (a.accept.length ≤ st ∧ st < caL a ∧ m / 2 < caL a)) : caB a st j m = caL a := by
  unfold caB
  rw [if_pos (by omega)]
set_option maxHeartbeats 8000000 in
theorem ro_sp_0 {a : GAlgebra} (ha : AlL a) (hw : AlW a) (st j : Nat) (hst : st ≤ caL a) (hj : j < 2) {σ0 : List AObj} {va ka vb kb vr kr vi ki : Nat} (hc : σ0[1]? = some (ckQ (ckS a : Nat) 0 va ka vb kb vr kr vi ki)) (id : Nat) (m : Nat) (s : List AObj × Nat) (hm : m < ckS a) (hi : FlI σ0 id (caB a st j) m s) :
    ∃ s' : List AObj × Nat, P0 a st j id m s = P0 a st j id (m + 1) s' ∧ FlI σ0 id (caB a st j) (m + 1) s' := by
  obtain ⟨σ, v⟩ := s
  refine ⟨_, ?_, hi.push (nl_int _)⟩
  have h1 := hi.l.at
  have hn := ha.n
  have hc1 := hi.e.get hc
  unfold ckS at hm
  have hm' : (m : Int) < (ckS a : Nat) := by unfold ckS; omega
  have hw1 := wrap_i64 (n := m + 1) (by omega)
  have b1 : (m + 1) * 8 ≤ 140737488355328 := by omega
  have e1 : (m : Int).tdiv 2 = ((m / 2 : Nat) : Int) := rfl
  have e2 : (m : Int).tmod 2 = ((m % 2 : Nat) : Int) := rfl
  have ca : a.accept.length ≤ st ∨ ¬ a.accept.length ≤ st := by omega
  have cb : st < caL a ∨ ¬ st < caL a := by omega
  have cc : m / 2 < caL a ∨ ¬ m / 2 < caL a := by omega
  funext ks a9
  unfold P0
  have b0 : m / 2 ≤ 1000 := by omega
  have w0 := wrap_i64 (n := ((m / 2 : Nat) : Int)) (by omega)
  rw [l_spec_CheckerOfAlgebra_0]
  have fin : ∀ x : Int, x = caB a st j m → i64 x = Enc.pv (caB a st j m) := fun x h => by rw [h]; rfl
  by_cases c1 : a.accept.length ≤ st
  · by_cases c2 : st < caL a
    · by_cases c3 : m / 2 < caL a
      · rw [caB_in c1 c2 c3]
        obtain ⟨d, rfl⟩ : ∃ d, st = a.accept.length + d := ⟨st - a.accept.length, by omega⟩
        have hd : d < a.accept.length := by unfold caL at hst c2; omega
        have hv := ha.val; have hr := ha.row; have wv := hw.wv; have wr := hw.wr
        have e3 := tr (m / 2) a.accept.length
        have e4 := tq (m / 2) a.accept.length
        have m0 : m / 2 % a.accept.length < a.accept.length := Nat.mod_lt _ (by omega)
        have z0 : m / 2 / a.accept.length * a.accept.length ≤ m / 2 := Nat.div_mul_le_self _ _
        have z1 : m / 2 / a.accept.length ≤ m / 2 := Nat.div_le_self _ _
        have n0 : ¬ ((a.accept.length : Int) = 0) := by omega
        have n1 : ¬ a.accept = [] := fun h => by rw [h] at n0; simp at n0
        have b2 : m % 2 < 2 := by omega
        have t4 : a.accept.length + d - a.accept.length = d := by omega
        rw [t4]
        generalize m / 2 = q at *
        generalize m % 2 = r at *
        generalize q % a.accept.length = u at *
        generalize hz : q / a.accept.length * a.accept.length = z at *
        generalize q / a.accept.length = y at *
        have hz' : (y : Int) * (a.accept.length : Int) = (z : Int) := by rw [← hz]; simp
        have h4 : 2 * r + j < 4 := by omega
        have p1 := hw.wt (2 * r + j) d h4 hd
        have p2 := ha.lt u _ m0 p1
        have v0 := wrap_i64 (n := y) (by omega)
        have v1 := wrap_i64 (n := 2 * r) (by omega)
        have v2 := wrap_i64 (n := 2 * r + j) (by omega)
        have v3 := wrap_i64 (n := d) (by omega)
        have v4 := wrap_i64 (n := (gN a u (wN a (2 * r + j) d) : Nat) + z) (by omega)
        have v5 := wrap_i64 (n := (z : Int)) (by omega)
        have t1 : (2 * (r : Int) + j).toNat = 2 * r + j := by omega
        have t2 : (0 : Int) ≤ 2 * (r : Int) + j ∧ 2 * (r : Int) + j < 4 := by omega
        have t3 : ((a.accept.length : Int) + d - a.accept.length) = d := by omega
        have c2' : ((a.accept.length : Int) + d < caL a) := by omega
        have c1' : (a.accept.length : Int) ≤ (a.accept.length : Int) + d := by omega
        simp [-callN] at h1 hc1
        simp [-callN, lb_spec_CheckerOfAlgebra_0, h1, hc1, hm', e1, e2, e3, e4, w0, c1, c1', c2', c3, n0, n1, ha.pl, hw.wl, m0, hr, hv, wr, wv, hj, p1, v0, v1, v2, v3, v4, v5, t1, t2, t3, h4, hd, hz', hw1, b1]
        done
      · rw [caB_out hst (by omega)]
        have c3' : ¬ ((m / 2 : Nat) : Int) < caL a := by omega
        generalize m / 2 = q at *
        simp [-callN] at h1 hc1
        simp [-callN, lb_spec_CheckerOfAlgebra_0, h1, hc1, hm', e1, w0, c1, c2, c3', c3, hw1, b1]
        done
    · rw [caB_out hst (by omega)]
      simp [-callN] at h1 hc1
      simp [-callN, lb_spec_CheckerOfAlgebra_0, h1, hc1, hm', e1, w0, c1, c2, hw1, b1]
      done
  · rw [caB_out hst (by omega)]
    simp [-callN] at h1 hc1
    simp [-callN, lb_spec_CheckerOfAlgebra_0, h1, hc1, hm', e1, w0, c1, hw1, b1]
    done

theorem lo_sp_0 {a : GAlgebra} (ha : AlL a) (hw : AlW a) (st j : Nat) (hst : st ≤ caL a) (hj : j < 2) {σ : List AObj} {va ka vb kb vr kr vi ki : Nat} (hc : σ[1]? = some (ckQ (ckS a : Nat) 0 va ka vb kb vr kr vi ki)) (g : Good σ) (n : Nl [] σ) :
    ∃ s' : List AObj × Nat, (∀ ks a9, rE fns fa_spec_CheckerOfAlgebra 0 (.code lo_spec_CheckerOfAlgebra_0 :: .inBlock 4 :: ks) [(12, i64 0), (11, .own σ.length 0 0 0), (10, i64 (j : Nat)), (9, a9), (7, i64 (st : Nat)), (6, .ptr 1 0 0 0), (5, i64 (caL a)), (4, i64 a.accept.length), (2, .ptr 0 0 0 0), (1, AgP a)] (σ ++ [.row 1 [] 0]) =
      rE fns fa_spec_CheckerOfAlgebra 0 ks [(11, .own σ.length s'.2 0 (ckS a)), (10, i64 (j : Nat)), (9, a9), (7, i64 (st : Nat)), (6, .ptr 1 0 0 0), (5, i64 (caL a)), (4, i64 a.accept.length), (2, .ptr 0 0 0 0), (1, AgP a)] s'.1) ∧ FlI σ σ.length (caB a st j) (ckS a) s' := by
  obtain ⟨s1, k1, h1⟩ := loop_known (F := P0 a st j σ.length) (n := ckS a) (I := FlI σ σ.length (caB a st j)) (fun m s hm hi => ro_sp_0 ha hw st j hst hj hc σ.length m s hm hi) (FlI.start (caB a st j) g n)
  refine ⟨s1, fun ks a9 => ?_, h1⟩
  have e := congrFun (congrFun k1 ks) a9
  unfold P0 at e
  have hc1 := h1.e.get hc
  have e2 : rE fns fa_spec_CheckerOfAlgebra 0 (.code lo_spec_CheckerOfAlgebra_0 :: .inBlock 4 :: ks) [(12, i64 (ckS a : Nat)), (11, .own σ.length s1.2 0 (ckS a)), (10, i64 (j : Nat)), (9, a9), (7, i64 (st : Nat)), (6, .ptr 1 0 0 0), (5, i64 (caL a)), (4, i64 a.accept.length), (2, .ptr 0 0 0 0), (1, AgP a)] s1.1 =
      rE fns fa_spec_CheckerOfAlgebra 0 ks [(11, .own σ.length s1.2 0 (ckS a)), (10, i64 (j : Nat)), (9, a9), (7, i64 (st : Nat)), (6, .ptr 1 0 0 0), (5, i64 (caL a)), (4, i64 a.accept.length), (2, .ptr 0 0 0 0), (1, AgP a)] s1.1 := by
    rw [l_spec_CheckerOfAlgebra_0]
    simp at hc1
    simp [lb_spec_CheckerOfAlgebra_0, hc1]
  rw [e2] at e
  simpa using e
/-- A list of lists under way, behind a state. -/
structure PpI (σ0 : List AObj) (f : Nat → List Int) (k : Nat) (s : List AObj × Nat) : Prop where
  q : ∃ es ids, Lst s.1 σ0.length s.2 es ids ((List.range k).map f) ∧ ∀ i ∈ ids, σ0.length ≤ i
  e : Ext σ0 s.1
  g : Good s.1
  n : Nl [] s.1
theorem PpI.start {σ : List AObj} (f : Nat → List Int) (g : Good σ) (n : Nl [] σ) : PpI σ f 0 (σ ++ [.row 1 [] 0], 0) :=
  ⟨⟨[], [σ.length], by simpa using Lst.new (α := List Int) σ 0, by simp⟩, Ext.snoc _ _, Good.snoc g (by simp [PV.bels]), n.app (by simp [AObj.nl, PV.nls])⟩
noncomputable def P1 (a : GAlgebra) (st : Nat) (n0 : Nat) (k : Nat) (s : List AObj × Nat) (ks : List KI) : Option (PV × List AObj) :=
  rE fns fa_spec_CheckerOfAlgebra 0 (.code lo_spec_CheckerOfAlgebra_1 :: .inBlock 2 :: ks) [(10, i64 (k : Nat)), (9, .own n0 s.2 0 k), (7, i64 (st : Nat)), (6, .ptr 1 0 0 0), (5, i64 (caL a)), (4, i64 a.accept.length), (2, .ptr 0 0 0 0), (1, AgP a)] s.1
set_option maxHeartbeats 8000000 in
theorem ro_sp_1 {a : GAlgebra} (ha : AlL a) (hw : AlW a) (st : Nat) (hst : st ≤ caL a) {σ0 : List AObj} {va ka vb kb vr kr vi ki : Nat} (hc : σ0[1]? = some (ckQ (ckS a : Nat) 0 va ka vb kb vr kr vi ki)) (k : Nat) (s : List AObj × Nat) (hk : k < 2) (hi : PpI σ0 (fun k => (List.range (ckS a + 1)).map (caB a st k)) k s) :
    ∃ s' : List AObj × Nat, P1 a st σ0.length k s = P1 a st σ0.length (k + 1) s' ∧ PpI σ0 (fun k => (List.range (ckS a + 1)).map (caB a st k)) (k + 1) s' := by
  obtain ⟨σ, v⟩ := s
  obtain ⟨⟨es, ids, hq, hqi⟩, he, hg, hn⟩ := hi
  simp only at hq he hg hn
  have hlen := he.len
  have hc1 := he.get hc
  have hn0 := ha.n
  obtain ⟨s1, k1, hf⟩ := lo_sp_0 ha hw st k hst hk hc1 hg hn
  obtain ⟨τ, vl⟩ := s1
  have hat := hf.l.at
  have hc2 := hf.e.get hc1
  have hf2 := hf.push (nl_int _)
  have hB : caB a st k (ckS a) = caL a := caB_out hst (by unfold ckS caL; omega)
  rw [hB] at hf2
  simp only at hf2 hat hc2
  generalize hσ1 : τ.set σ.length (.row (Enc.sz Int) (((List.range (ckS a)).map (caB a st k)).map Enc.pv ++ [Enc.pv (caL a : Int)]) (vl + 1)) = σ1 at *
  have hl := hf2.l.own (by simp; unfold ckS; omega)
  have hfe := hf2.e
  have hfg := hf2.g
  have hfn := hf2.n
  simp only [List.length_map, List.length_range] at hl hfe hfg hfn
  have q1 := hq.ext hfe
  have q2 := q1.push hl (fun i hi hj => by simp at hj; have := hq.lt i hi; omega)
  have hat2 := q1.at
  have lq := hq.len
  simp only [List.length_map, List.length_range] at lq
  refine ⟨(σ1.set σ0.length (.row (Enc.sz (List Int)) (es ++ [.own σ.length (vl + 1) 0 (ckS a + 1)]) (v + 1)), v + 1), ?_, ⟨⟨_, _, by rw [map_succ]; exact q2, ?_⟩, ?_, ?_, ?_⟩⟩
  · funext ks
    unfold P1
    have hwk := wrap_i64 (n := k + 1) (by omega)
    have hk2 : (k : Int) < 2 := by omega
    have bS : (ckS a + 1) * 8 ≤ 140737488355328 ∧ ckS a + 1 ≤ 140737488355328 := by unfold ckS; omega
    have b1 : (k + 1) * 24 ≤ 140737488355328 := by omega
    have hsl : ∀ (l : List PV), l.length = ckS a → List.take (ckS a) l = l := fun l h => by rw [← h]; exact List.take_length
    subst lq
    rw [l_spec_CheckerOfAlgebra_1]
    simp [-callN] at hc1 hc2 k1 hat hat2 hσ1
    simp [-callN, lb_spec_CheckerOfAlgebra_1, hk, hk2, hc1, hc2, k1, hat, hat2, hσ1, hwk, bS, b1]
    done
  · intro i hi
    rcases List.mem_append.1 hi with hi | hi
    · exact hqi i hi
    · simp at hi; omega
  · exact (Ext.trans he hfe).set (Nat.le_refl _) _
  · exact Good.set hfg _ _ _ (by rw [bels_append, Bool.and_eq_true]; exact ⟨Good.at hfg hat2, by simp only [PV.bels, Bool.and_true]; exact hl.bel⟩)
  · exact hfn.set _ (row_nl (nls_append (hfn.at (by simp) hat2) (by simp [PV.nls, PV.nl])))
end Go.Proofs.Ytegjfjckijmgcaa
