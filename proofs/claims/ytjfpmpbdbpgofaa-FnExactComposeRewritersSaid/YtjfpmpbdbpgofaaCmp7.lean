/- Rewriters composed: the reference's ComposeRewriters, run. -/
import Derived.Test.YtjfpmpbdbpgofaaCmp5
set_option linter.unusedVariables false
set_option linter.unusedSimpArgs false
set_option maxRecDepth 100000
namespace Go.Proofs.Ytjfpmpbdbpgofaa
open Aw
theorem RjI.start {σ : List AObj} (C : Nat → GOutPush) (I : Nat → GOutMove) (B : Nat → Nat → GOutMove) (S : Nat) (g : Good σ) : RjI σ C I B S 0 (σ ++ [.row 3 [] 0] ++ [.row 2 [] 0] ++ [.row 1 [] 0], 0, 0, 0) := by
  have l1 := Lst.new (α := GOutPush) σ 0
  have l2 := Lst.new (α := GOutMove) (σ ++ [.row 3 [] 0]) 0
  have l3 := Lst.new (α := List GOutMove) (σ ++ [.row 3 [] 0] ++ [.row 2 [] 0]) 0
  have e1 := Ext.snoc (σ ++ [.row 3 [] 0]) (.row 2 [] 0)
  have e2 := Ext.snoc (σ ++ [.row 3 [] 0] ++ [.row 2 [] 0]) (.row 1 [] 0)
  have g1 : Good (σ ++ [.row 3 [] 0]) := Good.snoc g (by simp [PV.bels])
  have g2 : Good (σ ++ [.row 3 [] 0] ++ [.row 2 [] 0]) := Good.snoc g1 (by simp [PV.bels])
  refine ⟨?_, ?_, ⟨[], [σ.length + 2], ?_, by simp⟩, ⟨[.row 3 [] 0, .row 2 [] 0, .row 1 [] 0], by simp⟩, Good.snoc g2 (by simp [PV.bels]), by simp⟩
  · simpa using (l1.ext e1).ext e2
  · have := l2.ext e2
    simpa using this
  · simpa using l3
theorem lo_cm_1 {r s : GRewriter} (h : CmI r s) (z : Nat) (hz : z < r.call.length * s.call.length) {σ : List AObj} {x1 : Int} {vb kb vr kr vi ki : Nat} (hc : σ[1]? = some (rwQ (r.stack * s.stack) x1 vb kb vr kr vi ki)) (hl0 : 2 ≤ σ.length) (g : Good σ) :
    ∃ t : S3J, (∀ ks, rE fns fa_spec_ComposeRewriters 0 (.code lo_spec_ComposeRewriters_1 :: .inBlock 2 :: ks) [(16, i64 0), (15, .own (σ.length + 2) 0 0 0), (14, .own (σ.length + 1) 0 0 0), (13, .own σ.length 0 0 0), (12, i64 ((z % s.call.length : Nat) : Int)), (11, i64 ((z / s.call.length : Nat) : Int)), (10, i64 (z : Nat)), (9, .ptr 1 0 0 0), (8, i64 ((r.call.length : Int) * s.call.length)), (7, i64 s.stack), (6, i64 s.call.length), (4, .ptr 0 0 0 0), (3, RwF s), (2, RwF r)] (σ ++ [.row 3 [] 0] ++ [.row 2 [] 0] ++ [.row 1 [] 0]) =
      rE fns fa_spec_ComposeRewriters 0 ks [(15, .own (σ.length + 2) t.2.2.2 0 2), (14, .own (σ.length + 1) t.2.2.1 0 2), (13, .own σ.length t.2.1 0 2), (10, i64 (z : Nat)), (9, .ptr 1 0 0 0), (8, i64 ((r.call.length : Int) * s.call.length)), (7, i64 s.stack), (6, i64 s.call.length), (4, .ptr 0 0 0 0), (3, RwF s), (2, RwF r)] t.1) ∧ RjI σ (cmC r s z) (cmI r s z) (cmB r s z) (cmM r s) 2 t := by
  obtain ⟨s1, k1, h1⟩ := loop_known (F := P1 r s z σ.length) (n := 2) (I := RjI σ (cmC r s z) (cmI r s z) (cmB r s z) (cmM r s)) (fun k t hk hi => ro_cm_1 h z hz hc hl0 k t hk hi) (RjI.start (cmC r s z) (cmI r s z) (cmB r s z) (cmM r s) g)
  refine ⟨s1, fun ks => ?_, h1⟩
  have e := congrFun k1 ks
  unfold P1 at e
  have e2 : rE fns fa_spec_ComposeRewriters 0 (.code lo_spec_ComposeRewriters_1 :: .inBlock 2 :: ks) [(16, i64 ((2 : Nat) : Int)), (15, .own (σ.length + 2) s1.2.2.2 0 2), (14, .own (σ.length + 1) s1.2.2.1 0 2), (13, .own σ.length s1.2.1 0 2), (12, i64 ((z % s.call.length : Nat) : Int)), (11, i64 ((z / s.call.length : Nat) : Int)), (10, i64 (z : Nat)), (9, .ptr 1 0 0 0), (8, i64 ((r.call.length : Int) * s.call.length)), (7, i64 s.stack), (6, i64 s.call.length), (4, .ptr 0 0 0 0), (3, RwF s), (2, RwF r)] s1.1 =
      rE fns fa_spec_ComposeRewriters 0 ks [(15, .own (σ.length + 2) s1.2.2.2 0 2), (14, .own (σ.length + 1) s1.2.2.1 0 2), (13, .own σ.length s1.2.1 0 2), (10, i64 (z : Nat)), (9, .ptr 1 0 0 0), (8, i64 ((r.call.length : Int) * s.call.length)), (7, i64 s.stack), (6, i64 s.call.length), (4, .ptr 0 0 0 0), (3, RwF s), (2, RwF r)] s1.1 := by
    rw [l_spec_ComposeRewriters_1]
    simp [lb_spec_ComposeRewriters_1]
  rw [e2] at e
  exact e
theorem sets_eq (l : List AObj) (a b c r1 r2 r3 : AObj) : (((((l.set 2 a).set 1 r1).set 4 b).set 1 r2).set 3 c).set 1 r3 = (((l.set 2 a).set 3 c).set 4 b).set 1 r3 := by
  apply List.ext_getElem?
  intro j
  simp only [List.getElem?_set, List.length_set]
  by_cases h1 : 1 = j
  · subst h1; simp
  · by_cases h2 : 2 = j
    · subst h2; simp
    · by_cases h3 : 3 = j
      · subst h3; simp
      · by_cases h4 : 4 = j
        · subst h4; simp
        · simp [h1, h2, h3, h4]
/-- A rewriter under way. -/
structure RqI (C : Nat → Nat → GOutPush) (B : Nat → Nat → Nat → GOutMove) (I : Nat → Nat → GOutMove) (S : Nat) (x0 x1 : Int) (k : Nat) (s : S4) : Prop where
  r0 : s.1[0]? = some (.row 5 [zRwB] 0)
  r1 : s.1[1]? = some (rwQ x0 x1 s.2.1 k s.2.2.1 k s.2.2.2 k)
  ex : ∃ eb ib er ir ei ii, Lst s.1 2 s.2.1 eb ib ((List.range k).map fun s => (List.range 2).map (C s)) ∧ Lst s.1 3 s.2.2.1 er ir ((List.range k).map fun s => (List.range 2).map fun k => (List.range (S + 1)).map (B s k)) ∧
    Lst s.1 4 s.2.2.2 ei ii ((List.range k).map fun s => (List.range 2).map (I s)) ∧ (∀ i ∈ ib, i = 2 ∨ 5 ≤ i) ∧ (∀ i ∈ ir, i = 3 ∨ 5 ≤ i) ∧ (∀ i ∈ ii, i = 4 ∨ 5 ≤ i) ∧ (∀ i ∈ ib, i ∉ ir) ∧ (∀ i ∈ ib, i ∉ ii) ∧ (∀ i ∈ ir, i ∉ ii)
  l : 5 ≤ s.1.length
  g : Good s.1
  v : s.2.1 ≤ k ∧ s.2.2.1 ≤ k ∧ s.2.2.2 ≤ k
noncomputable def P2 (r s : GRewriter) (z : Nat) (t : S4) (ks : List KI) : Option (PV × List AObj) :=
  rE fns fa_spec_ComposeRewriters 0 (.code lo_spec_ComposeRewriters_2 :: .inBlock 0 :: ks) [(10, i64 (z : Nat)), (9, .ptr 1 0 0 0), (8, i64 ((r.call.length : Int) * s.call.length)), (7, i64 s.stack), (6, i64 s.call.length), (4, .ptr 0 0 0 0), (3, RwF s), (2, RwF r)] t.1
set_option maxHeartbeats 32000000 in
theorem ro_cm_2 {r s : GRewriter} (h : CmI r s) (x1 : Int) (k : Nat) (t : S4) (hk : k < cmN r s) (hi : RqI (cmC r s) (cmB r s) (cmI r s) (cmM r s) (r.stack * s.stack) x1 k t) :
    ∃ t' : S4, P2 r s k t = P2 r s (k + 1) t' ∧ RqI (cmC r s) (cmB r s) (cmI r s) (cmM r s) (r.stack * s.stack) x1 (k + 1) t' := by
  obtain ⟨σ, vb, vr, vi⟩ := t
  obtain ⟨b1', b2', b3', b4', b5', b6'⟩ := cm_bounds h
  obtain ⟨r0, r1, ⟨eb, ib, er, ir, ei, ii, hb, hr, hii, db, dr, di, dbr, dbi, dri⟩, hl6, hg, hvv⟩ := hi
  simp only at r0 r1 hb hr hii hl6 hg hvv
  obtain ⟨s1, k1, w⟩ := lo_cm_1 h k hk r1 (by omega) hg
  obtain ⟨τ, vp, vw, vq⟩ := s1
  obtain ⟨wp, ww, ⟨eq, iq, wq, dq⟩, we, wg, wv⟩ := w
  simp only at wp wq ww we wg
  have hlen := we.len
  have op := wp.own (by simp)
  have oq := wq.own (by simp)
  have ow := ww.own (by simp)
  simp only [List.length_map, List.length_range] at op oq ow
  have t0 := we.get r0
  have t1 := we.get r1
  have iqn : ∀ i ∈ iq, σ.length + 2 ≤ i := fun i hi => by have := dq i hi; omega
  have ibl : ∀ i ∈ ib, i < σ.length := hb.lt
  have irl : ∀ i ∈ ir, i < σ.length := hr.lt
  have iil : ∀ i ∈ ii, i < σ.length := hii.lt
  -- the appends
  have b1 := hb.ext we
  have rr1 := hr.ext we
  have i1 := hii.ext we
  have bt1 := b1.at
  have b2 := b1.push op (fun i hi hj => by simp at hj; have := ibl i hi; omega)
  have K2 := Keep.set τ 2 (.row (Enc.sz (List GOutPush)) (eb ++ [.own σ.length vp 0 2]) (vb + 1))
  have g2 : Good (τ.set 2 (.row (Enc.sz (List GOutPush)) (eb ++ [.own σ.length vp 0 2]) (vb + 1))) :=
    Good.set wg _ _ _ (by rw [bels_append, Bool.and_eq_true]; exact ⟨Good.at wg bt1, by simp only [PV.bels, Bool.and_true]; exact op.bel⟩)
  have rr2 := rr1.keep K2 (fun i hi hj => by simp at hj; have := dr i hi; omega)
  have i2 := i1.keep K2 (fun i hi hj => by simp at hj; have := di i hi; omega)
  have oq2 := K2.own oq (fun i hi hj => by simp at hj; have := iqn i hi; omega)
  have ow2 := K2.own ow (fun i hi hj => by simp at hi hj; omega)
  have t02 := K2.get (by simp) t0
  have t12 := K2.get (by simp) t1
  generalize hσ2 : τ.set 2 (.row (Enc.sz (List GOutPush)) (eb ++ [.own σ.length vp 0 2]) (vb + 1)) = σ2 at *
  have rt2 := rr2.at
  have rr3 := rr2.push oq2 (fun i hi hj => by have := irl i hi; have := iqn i hj; omega)
  have K3 := Keep.set σ2 3 (.row (Enc.sz (List (List GOutMove))) (er ++ [.own (σ.length + 2) vq 0 2]) (vr + 1))
  have g3 : Good (σ2.set 3 (.row (Enc.sz (List (List GOutMove))) (er ++ [.own (σ.length + 2) vq 0 2]) (vr + 1))) :=
    Good.set g2 _ _ _ (by rw [bels_append, Bool.and_eq_true]; exact ⟨Good.at g2 rt2, by simp only [PV.bels, Bool.and_true]; exact oq2.bel⟩)
  have b3 := b2.keep K3 (fun i hi hj => by simp at hj hi; rcases hi with hi | hi; have := db i hi; omega; omega)
  have i3 := i2.keep K3 (fun i hi hj => by simp at hj; have := di i hi; omega)
  have ow3 := K3.own ow2 (fun i hi hj => by simp at hi hj; omega)
  have t03 := K3.get (by simp) t02
  have t13 := K3.get (by simp) t12
  generalize hσ3 : σ2.set 3 (.row (Enc.sz (List (List GOutMove))) (er ++ [.own (σ.length + 2) vq 0 2]) (vr + 1)) = σ3 at *
  have it3 := i3.at
  have i4 := i3.push ow3 (fun i hi hj => by simp at hj; have := iil i hi; omega)
  have K4 := Keep.set σ3 4 (.row (Enc.sz (List GOutMove)) (ei ++ [.own (σ.length + 1) vw 0 2]) (vi + 1))
  have g4 : Good (σ3.set 4 (.row (Enc.sz (List GOutMove)) (ei ++ [.own (σ.length + 1) vw 0 2]) (vi + 1))) :=
    Good.set g3 _ _ _ (by rw [bels_append, Bool.and_eq_true]; exact ⟨Good.at g3 it3, by simp only [PV.bels, Bool.and_true]; exact ow3.bel⟩)
  have b4 := b3.keep K4 (fun i hi hj => by simp at hj hi; rcases hi with hi | hi; have := db i hi; omega; omega)
  have rr4 := rr3.keep K4 (fun i hi hj => by simp at hj; rcases List.mem_append.1 hi with hi | hi; have := dr i hi; omega; have := iqn i hi; omega)
  have t04 := K4.get (by simp) t03
  have t14 := K4.get (by simp) t13
  generalize hσ4 : σ3.set 4 (.row (Enc.sz (List GOutMove)) (ei ++ [.own (σ.length + 1) vw 0 2]) (vi + 1)) = σ4 at *
  have hl4 : σ4.length = τ.length := by rw [K4.1, K3.1, K2.1]
  have K5 := Keep.set σ4 1 (rwQ (r.stack * s.stack) x1 (vb + 1) (k + 1) (vr + 1) (k + 1) (vi + 1) (k + 1))
  refine ⟨(σ4.set 1 (rwQ (r.stack * s.stack) x1 (vb + 1) (k + 1) (vr + 1) (k + 1) (vi + 1) (k + 1)), vb + 1, vr + 1, vi + 1), ?_, ⟨?_, ?_, ⟨eb ++ [.own σ.length vp 0 2], ib ++ [σ.length], er ++ [.own (σ.length + 2) vq 0 2], ir ++ iq, ei ++ [.own (σ.length + 1) vw 0 2], ii ++ [σ.length + 1], ?_, ?_, ?_, ?_, ?_, ?_, ?_, ?_, ?_⟩, ?_, ?_, by simp only; omega⟩⟩
  · have hwk := wrap_i64 (n := k + 1) (by omega)
    have hkn : (k : Int) < (r.call.length : Int) * s.call.length := by omega
    have lb := hb.len
    have lr := hr.len
    have li := hii.len
    simp only [List.length_map, List.length_range] at lb lr li
    have bb : (k + 1) * 24 ≤ 140737488355328 ∧ k + 1 ≤ 140737488355328 := by omega
    have v3 : vb < 999999 ∧ vr < 999999 ∧ vi < 999999 := by omega
    obtain ⟨g1', g2', -, -, -⟩ := okRw_len h.hs
    obtain ⟨q1', q2', -, -, -⟩ := okRw_len h.hr
    simp only [inR, Bool.and_eq_true, decide_eq_true_eq] at g1' g2' q1' q2'
    have n0 : ¬ ((s.call.length : Int) = 0) := by omega
    have n1 : ¬ s.call = [] := fun h => by rw [h] at n0; simp at n0
    have e1 := tqR k s.call.length
    have e2 := trR k s.call.length
    have d1 : k / s.call.length ≤ 64 := Nat.le_trans (Nat.div_le_self _ _) (by omega)
    have rt0 : τ[3]? = some (.row 1 er vr) := rr1.at
    have it0 : τ[4]? = some (.row 1 ei vi) := i1.at
    have hlt : 5 ≤ τ.length := by omega
    have hse := sets_eq τ (.row 1 (eb ++ [.own σ.length vp 0 2]) (vb + 1)) (.row 1 (ei ++ [.own (σ.length + 1) vw 0 2]) (vi + 1)) (.row 1 (er ++ [.own (σ.length + 2) vq 0 2]) (vr + 1)) (rwQ (r.stack * s.stack) x1 (vb + 1) (k + 1) vr k vi k) (rwQ (r.stack * s.stack) x1 (vb + 1) (k + 1) vr k (vi + 1) (k + 1)) (rwQ (r.stack * s.stack) x1 (vb + 1) (k + 1) (vr + 1) (k + 1) (vi + 1) (k + 1))
    rw [show τ.set 2 (.row 1 (eb ++ [.own σ.length vp 0 2]) (vb + 1)) = σ2 from hσ2, show σ2.set 3 (.row 1 (er ++ [.own (σ.length + 2) vq 0 2]) (vr + 1)) = σ3 from hσ3, show σ3.set 4 (.row 1 (ei ++ [.own (σ.length + 1) vw 0 2]) (vi + 1)) = σ4 from hσ4] at hse
    have u1 : σ2[1]? = some (rwQ (r.stack * s.stack) x1 vb k vr k vi k) := t12
    have u4 : σ2[4]? = some (.row 1 ei vi) := K2.get (by simp) it0
    have u3 : σ2[3]? = some (.row 1 er vr) := rt2
    have hl2 : σ2.length = τ.length := K2.1
    have f1 : ∀ a, (σ2.set 1 a)[1]? = some a := fun a => List.getElem?_set_self (by omega)
    have f4 : ∀ a, (σ2.set 1 a)[4]? = some (.row 1 ei vi) := fun a => by rw [List.getElem?_set_ne (by decide)]; exact u4
    have f1' : ∀ a b, ((σ2.set 1 a).set 4 b)[1]? = some a := fun a b => by rw [List.getElem?_set_ne (by decide)]; exact f1 a
    have f1'' : ∀ a b c, (((σ2.set 1 a).set 4 b).set 1 c)[1]? = some c := fun a b c => List.getElem?_set_self (by simp; omega)
    have f3 : ∀ a b c, (((σ2.set 1 a).set 4 b).set 1 c)[3]? = some (.row 1 er vr) := fun a b c => by rw [List.getElem?_set_ne (by decide), List.getElem?_set_ne (by decide), List.getElem?_set_ne (by decide)]; exact u3
    have f13 : ∀ a b c d, ((((σ2.set 1 a).set 4 b).set 1 c).set 3 d)[1]? = some c := fun a b c d => by rw [List.getElem?_set_ne (by decide)]; exact f1'' a b c
    funext ks
    unfold P2
    rw [l_spec_ComposeRewriters_2]
    generalize k / s.call.length = x at *
    generalize k % s.call.length = y at *
    have w0 := wrap_i64 (n := (x : Int)) (by omega)
    have hσ2' : τ.set 2 (.row 1 (eb ++ [.own σ.length vp 0 2]) (vb + 1)) = σ2 := hσ2
    have bt1' : τ[2]? = some (.row 1 eb vb) := bt1
    simp [-callN] at k1 bt1' r1 t1 u1 u3 u4 hσ2' f1 f4 f1' f1'' f3 f13 hse
    simp (config := { maxSteps := 2000000 }) [-callN, lb_spec_ComposeRewriters_2, hkn, e1, e2, n0, n1, w0, r1, t1, k1, bt1', u1, u3, u4, hσ2', f1, f4, f1', f1'', f3, f13, hse, lb, lr, li, hwk, bb, v3, setCells]
    done
  · exact K5.get (by simp) t04
  · exact List.getElem?_set_self (by omega)
  · have := b4.keep K5 (fun i hi hj => by simp at hj hi; rcases hi with hi | hi; have := db i hi; omega; omega)
    simp only; rw [map_succ]; exact this
  · have := rr4.keep K5 (fun i hi hj => by simp at hj; rcases List.mem_append.1 hi with hi | hi; have := dr i hi; omega; have := iqn i hi; omega)
    simp only; rw [map_succ]; exact this
  · have := i4.keep K5 (fun i hi hj => by simp at hj hi; rcases hi with hi | hi; have := di i hi; omega; omega)
    simp only; rw [map_succ]; exact this
  · intro i hi; rcases List.mem_append.1 hi with hi | hi; exact db i hi; simp at hi; omega
  · intro i hi; rcases List.mem_append.1 hi with hi | hi; exact dr i hi; have := iqn i hi; omega
  · intro i hi; rcases List.mem_append.1 hi with hi | hi; exact di i hi; simp at hi; omega
  · intro i hi hj
    rcases List.mem_append.1 hi with hi | hi <;> rcases List.mem_append.1 hj with hj | hj
    · exact dbr i hi hj
    · have := ibl i hi; have := iqn i hj; omega
    · simp at hi; have := irl i hj; omega
    · simp at hi; have := iqn i hj; omega
  · intro i hi hj
    rcases List.mem_append.1 hi with hi | hi <;> rcases List.mem_append.1 hj with hj | hj
    · exact dbi i hi hj
    · simp at hj; have := ibl i hi; omega
    · simp at hi; have := iil i hj; omega
    · simp at hi hj; omega
  · intro i hi hj
    rcases List.mem_append.1 hi with hi | hi <;> rcases List.mem_append.1 hj with hj | hj
    · exact dri i hi hj
    · simp at hj; have := irl i hi; omega
    · have := iqn i hi; have := iil i hj; omega
    · simp at hj; have := dq i hi; omega
  · simp only [List.length_set]; omega
  · exact Good.set g4 _ _ _ (by simp [PV.bels, PV.bel]; omega)
end Go.Proofs.Ytjfpmpbdbpgofaa

set_option linter.unusedVariables false
set_option linter.unusedSimpArgs false
set_option maxRecDepth 100000
namespace Go.Proofs.Ytjfpmpbdbpgofaa
open Aw
theorem RqI.start (C : Nat → Nat → GOutPush) (B : Nat → Nat → Nat → GOutMove) (I : Nat → Nat → GOutMove) (S : Nat) (x0 x1 : Int) :
    RqI C B I S x0 x1 0 ([.row 5 [zRwB] 0, rwQ x0 x1 0 0 0 0 0 0, .row 1 [] 0, .row 1 [] 0, .row 1 [] 0], 0, 0, 0) := by
  refine ⟨rfl, rfl, ⟨[], [2], [], [3], [], [4], ⟨rfl, rfl, ⟨[], rfl, trivial⟩, by simp, by simp⟩, ⟨rfl, rfl, ⟨[], rfl, trivial⟩, by simp, by simp⟩, ⟨rfl, rfl, ⟨[], rfl, trivial⟩, by simp, by simp⟩, by simp, by simp, by simp, by simp, by simp, by simp⟩, by simp, ?_, by simp⟩
  simp [Good, objsBel, PV.bels, PV.bel]
theorem lo_cm_2 {r s : GRewriter} (h : CmI r s) (x1 : Int) :
    ∃ t : S4, (∀ ks, rE fns fa_spec_ComposeRewriters 0 (.code lo_spec_ComposeRewriters_2 :: .inBlock 0 :: ks) [(10, i64 0), (9, .ptr 1 0 0 0), (8, i64 ((r.call.length : Int) * s.call.length)), (7, i64 s.stack), (6, i64 s.call.length), (4, .ptr 0 0 0 0), (3, RwF s), (2, RwF r)] [.row 5 [zRwB] 0, rwQ (r.stack * s.stack) x1 0 0 0 0 0 0, .row 1 [] 0, .row 1 [] 0, .row 1 [] 0] =
      rE fns fa_spec_ComposeRewriters 0 ks [(9, .ptr 1 0 0 0), (4, .ptr 0 0 0 0)] t.1) ∧ RqI (cmC r s) (cmB r s) (cmI r s) (cmM r s) (r.stack * s.stack) x1 (cmN r s) t := by
  obtain ⟨s1, k1, h1⟩ := loop_known (F := P2 r s) (n := cmN r s) (I := RqI (cmC r s) (cmB r s) (cmI r s) (cmM r s) (r.stack * s.stack) x1) (fun k t hk hi => ro_cm_2 h x1 k t hk hi) (RqI.start (cmC r s) (cmB r s) (cmI r s) (cmM r s) (r.stack * s.stack) x1)
  refine ⟨s1, fun ks => ?_, h1⟩
  obtain ⟨b1, b2, b3, b4, b5, b6⟩ := cm_bounds h
  have e := congrFun k1 ks
  unfold P2 at e
  rw [b5] at e
  have e2 : rE fns fa_spec_ComposeRewriters 0 (.code lo_spec_ComposeRewriters_2 :: .inBlock 0 :: ks) [(10, i64 ((r.call.length : Int) * s.call.length)), (9, .ptr 1 0 0 0), (8, i64 ((r.call.length : Int) * s.call.length)), (7, i64 s.stack), (6, i64 s.call.length), (4, .ptr 0 0 0 0), (3, RwF s), (2, RwF r)] s1.1 =
      rE fns fa_spec_ComposeRewriters 0 ks [(9, .ptr 1 0 0 0), (4, .ptr 0 0 0 0)] s1.1 := by
    rw [l_spec_ComposeRewriters_2]
    simp [lb_spec_ComposeRewriters_2]
  rw [e2] at e
  exact e
theorem exa_cm7 {r s : GRewriter} (h : CmI r s) : Exa 7 (cmX r s).call ∧ Exa 7 (cmX r s).ret ∧ Exa 7 (cmX r s).inner := by
  obtain ⟨b1, b2, b3, b4, b5, b6⟩ := cm_bounds h
  refine ⟨Exa.list (range_ne _ (by omega)) fun x hx => ?_, Exa.list (range_ne _ (by omega)) fun x hx => ?_, Exa.list (range_ne _ (by omega)) fun x hx => ?_⟩
  · obtain ⟨z, _, rfl⟩ := List.mem_map.1 hx
    exact Exa.list (range_ne _ (by omega)) fun y _ => exa_push _ y
  · obtain ⟨z, _, rfl⟩ := List.mem_map.1 hx
    refine Exa.list (range_ne _ (by omega)) fun y hy => ?_
    obtain ⟨k, _, rfl⟩ := List.mem_map.1 hy
    exact Exa.list (range_ne _ (by omega)) fun u _ => exa_move _ u
  · obtain ⟨z, _, rfl⟩ := List.mem_map.1 hx
    exact Exa.list (range_ne _ (by omega)) fun y _ => exa_move _ y
theorem ty_zRw : PV.ty (Own.sh GRewriter) zRwB = Enc.pv zRw0 := rfl
set_option maxHeartbeats 16000000 in
theorem spC_ComposeRewriters (r : GRewriter) (hr : Siz.size r ≤ 1048576) (s : GRewriter) (hs : Siz.size s ≤ 1048576) :
    ∃ q, ev fns i_spec_ComposeRewriters [r.v, s.v] [] = some (.tup [q, i64 (cmA r s).2], []) ∧ q.bel 0 = true ∧ PV.ty (Own.sh GRewriter) q = Enc.pv (cmA r s).1 := by
  have hv1 := ev_spec_l06Ok r hr
  have hv2 := ev_spec_l06Ok s hs
  unfold cmA
  cases c1 : okRw r
  · rw [c1] at hv1
    simp at hv1
    refine ⟨zRwB, go_spec_ComposeRewriters (by simp) ?_, rfl, ty_zRw⟩
    simp [ac_spec_ComposeRewriters, hv1, setCells]
    done
  rw [c1] at hv1
  cases c2 : okRw s
  · rw [c2] at hv2
    simp at hv1 hv2
    refine ⟨zRwB, go_spec_ComposeRewriters (by simp) ?_, rfl, ty_zRw⟩
    simp [ac_spec_ComposeRewriters, hv1, hv2, setCells]
    done
  rw [c2] at hv2
  have hst := ev_spec_l06Structural r hr c1
  cases c3 : strRw r
  · rw [c3] at hst
    simp at hv1 hv2 hst
    refine ⟨zRwB, go_spec_ComposeRewriters (by simp) ?_, rfl, ty_zRw⟩
    simp [ac_spec_ComposeRewriters, hv1, hv2, hst, setCells]
    done
  rw [c3] at hst
  have h : CmI r s := ⟨c1, c2, c3⟩
  obtain ⟨b1, b2, b3, b4, b5, b6⟩ := cm_bounds h
  obtain ⟨g1, g2, g3, -, -⟩ := okRw_len c2
  obtain ⟨q1, q2, q3, -, -⟩ := okRw_len c1
  simp only [inR, Bool.and_eq_true, decide_eq_true_eq] at g1 g2 g3 q1 q2 q3
  have w1 := wrap_i64 (n := (r.call.length : Int) * (s.call.length : Int)) (by omega)
  have w2 := wrap_i64 (n := r.stack * s.stack) (by omega)
  have m1 : 0 ≤ r.start * (s.call.length : Int) ∧ r.start * (s.call.length : Int) ≤ 64 := by
    refine ⟨Int.mul_nonneg q3.1 (by omega), ?_⟩
    exact Int.le_trans (Int.mul_le_mul (show r.start ≤ 8 by omega) (show (s.call.length : Int) ≤ 8 by omega) (by omega) (by omega)) (by omega)
  have w3 := wrap_i64 (n := r.start * (s.call.length : Int)) (by omega)
  have w4 := wrap_i64 (n := r.start * (s.call.length : Int) + s.start) (by omega)
  obtain ⟨tt, lo, hi⟩ := lo_cm_2 h (r.start * (s.call.length : Int) + s.start)
  obtain ⟨σ, vb, vr, vi⟩ := tt
  obtain ⟨r0, r1, ⟨eb, ib, er, ir, ei, ii, hb, hr', hii, db, dr, di, dbr, dbi, dri⟩, hl6, hg, hvv⟩ := hi
  simp only at r0 r1 hb hr' hii hl6 hg lo
  obtain ⟨x2, x3, x4⟩ := exa_cm h
  obtain ⟨x2', x3', x4'⟩ := exa_cm7 h
  have ob := hb.own (by simp; omega)
  have or_ := hr'.own (by simp; omega)
  have oi := hii.own (by simp; omega)
  simp only [List.length_map, List.length_range] at ob or_ oi
  have y2 : dfr σ 8 (.own 2 vb 0 (cmN r s)) = some (Enc.pv (cmX r s).call) := x2 _ _ _ ob.own
  have y3 : dfr σ 8 (.own 3 vr 0 (cmN r s)) = some (Enc.pv (cmX r s).ret) := x3 _ _ _ or_.own
  have y4 : dfr σ 8 (.own 4 vi 0 (cmN r s)) = some (Enc.pv (cmX r s).inner) := x4 _ _ _ oi.own
  have zz : ∀ a : AObj, Keep [0] σ (σ.set 0 a) := fun a => Keep.set σ 0 a
  have z2 : ∀ a : AObj, dfr (σ.set 0 a) 7 (.own 2 vb 0 (cmN r s)) = some (Enc.pv (cmX r s).call) := fun a => x2' _ _ _ ((zz a).own ob (fun i hi hj => by simp at hj; have := db i hi; omega)).own
  have z3 : ∀ a : AObj, dfr (σ.set 0 a) 7 (.own 3 vr 0 (cmN r s)) = some (Enc.pv (cmX r s).ret) := fun a => x3' _ _ _ ((zz a).own or_ (fun i hi hj => by simp at hj; have := dr i hi; omega)).own
  have z4 : ∀ a : AObj, dfr (σ.set 0 a) 7 (.own 4 vi 0 (cmN r s)) = some (Enc.pv (cmX r s).inner) := fun a => x4' _ _ _ ((zz a).own oi (fun i hi hj => by simp at hj; have := di i hi; omega)).own
  have q0 : ∀ a : AObj, (σ.set 0 a)[0]? = some a := fun a => List.getElem?_set_self (by omega)
  have hvX := ev_spec_l06Ok (cmX r s) (cmX_size h)
  have xst : (cmX r s).stack = r.stack * s.stack := by rw [← b6]; rfl
  have xsr : (cmX r s).start = r.start * s.call.length + s.start := rfl
  cases c4 : okRw (cmX r s)
  · rw [c4] at hvX
    refine ⟨zRwB, go_spec_ComposeRewriters (by simp) ?_, rfl, ty_zRw⟩
    simp [-callN, xst, xsr] at hvX
    simp at hv1 hv2 hst lo r0 r1 y2 y3 y4 z2 z3 z4 q0
    simp [ac_spec_ComposeRewriters, hv1, hv2, hst, w1, w2, w3, w4, lo, r0, r1, y2, y3, y4, z2, z3, z4, q0, hvX, dfr, mapO, setCells]
    done
  · rw [c4] at hvX
    refine ⟨(cmX r s).v, go_spec_ComposeRewriters (by simp) ?_, by simp [PV.bel, PV.bels], ?_⟩
    · have gz : Good (σ.set 0 (.row 5 [.agg [i64 (r.stack * s.stack), i64 (r.start * (s.call.length : Int) + s.start), .own 2 vb 0 (cmN r s), .own 3 vr 0 (cmN r s), .own 4 vi 0 (cmN r s)]] 0)) := Good.set hg _ _ _ (by simp [PV.bels, PV.bel]; omega)
      unfold Good at gz
      rw [List.length_set] at gz
      simp [-callN, xst, xsr] at hvX
      simp at hv1 hv2 hst lo r0 r1 y2 y3 y4 z2 z3 z4 q0
      simp [ac_spec_ComposeRewriters, hv1, hv2, hst, w1, w2, w3, w4, lo, r0, r1, y2, y3, y4, z2, z3, z4, q0, hvX, xst, xsr, dfr, mapO, setCells]
      rw [if_pos ⟨⟨by omega, by omega, by omega⟩, gz⟩]
      simp [dfr, mapO, z2, z3, z4]
      done
    · exact congrFun ty_Rewriter (cmX r s)
end Go.Proofs.Ytjfpmpbdbpgofaa
