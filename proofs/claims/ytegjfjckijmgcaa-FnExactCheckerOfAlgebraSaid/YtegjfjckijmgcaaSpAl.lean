/- The checker of an algebra: the reference. -/
import Derived.Test.YtegjfjckijmgcaaAlCk2
set_option linter.unusedVariables false
set_option linter.unusedSimpArgs false
set_option maxRecDepth 100000
namespace Go.Proofs.Ytegjfjckijmgcaa
open Aw
/-! ### Checkers under way, each of the four lists by itself -/
@[simp] abbrev ckQ (x0 x1 : Int) (va ka vb kb vr kr vi ki : Nat) : AObj := .row 6 [.agg [i64 x0, i64 x1, .own 2 va 0 ka, .own 3 vb 0 kb, .own 4 vr 0 kr, .own 5 vi 0 ki]] 0
structure BtQ (A : Nat → Bool) (C : Nat → List GPush) (B : Nat → List (List Int)) (I : Nat → List Int) (x0 x1 : Int) (ka kb kr ki : Nat) (s : S4) : Prop where
  r0 : s.1[0]? = some (.row 6 [zCk] 0)
  r1 : s.1[1]? = some (ckQ x0 x1 s.2.1 ka s.2.2.1 kb s.2.2.2.1 kr s.2.2.2.2 ki)
  a : Lst s.1 2 s.2.1 (((List.range ka).map A).map Enc.pv) [2] ((List.range ka).map A)
  ex : ∃ eb ib er ir ei ii, Lst s.1 3 s.2.2.1 eb ib ((List.range kb).map C) ∧ Lst s.1 4 s.2.2.2.1 er ir ((List.range kr).map B) ∧ Lst s.1 5 s.2.2.2.2 ei ii ((List.range ki).map I) ∧
    (∀ i ∈ ib, i = 3 ∨ 6 ≤ i) ∧ (∀ i ∈ ir, i = 4 ∨ 6 ≤ i) ∧ (∀ i ∈ ii, i = 5 ∨ 6 ≤ i) ∧ (∀ i ∈ ib, i ∉ ir) ∧ (∀ i ∈ ib, i ∉ ii) ∧ (∀ i ∈ ir, i ∉ ii)
  l : 6 ≤ s.1.length
  g : Good s.1
  n : Nl [] s.1
section
variable {A : Nat → Bool} {C : Nat → List GPush} {B : Nat → List (List Int)} {I : Nat → List Int} {x0 x1 : Int} {ka kb kr ki : Nat} {σ0 : List AObj} {va vb vr vi : Nat}
theorem BtQ.start (A : Nat → Bool) (C : Nat → List GPush) (B : Nat → List (List Int)) (I : Nat → List Int) (x0 x1 : Int) :
    BtQ A C B I x0 x1 0 0 0 0 ([.row 6 [zCk] 0, ckQ x0 x1 0 0 0 0 0 0 0 0, .row 1 [] 0, .row 1 [] 0, .row 1 [] 0, .row 1 [] 0], 0, 0, 0, 0) := by
  refine ⟨rfl, rfl, ⟨rfl, rfl, ⟨[], rfl, trivial⟩, by simp, by simp⟩, ⟨[], [3], [], [4], [], [5], ⟨rfl, rfl, ⟨[], rfl, trivial⟩, by simp, by simp⟩, ⟨rfl, rfl, ⟨[], rfl, trivial⟩, by simp, by simp⟩, ⟨rfl, rfl, ⟨[], rfl, trivial⟩, by simp, by simp⟩, by simp, by simp, by simp, by simp, by simp, by simp⟩, by simp, ?_, ?_⟩
  · simp [Good, objsBel, PV.bels, PV.bel]
  · refine GoodN.nlX ⟨?_, ?_⟩
    · simp [Good, objsBel, PV.bels, PV.bel]
    · simp [AObj.nl, PV.nls, PV.nl]
theorem BtQ.pushA (h : BtQ A C B I x0 x1 ka kb kr ki (σ0, va, vb, vr, vi)) : ∃ σa σ1, σ0[2]? = some (.row 1 (((List.range ka).map A).map Enc.pv) va) ∧ σ0[1]? = some (ckQ x0 x1 va ka vb kb vr kr vi ki) ∧
    σ0.set 2 (.row 1 (((List.range ka).map A).map Enc.pv ++ [Enc.pv (A ka)]) (va + 1)) = σa ∧ σa[1]? = some (ckQ x0 x1 va ka vb kb vr kr vi ki) ∧ σa.set 1 (ckQ x0 x1 (va + 1) (ka + 1) vb kb vr kr vi ki) = σ1 ∧
    BtQ A C B I x0 x1 (ka + 1) kb kr ki (σ1, va + 1, vb, vr, vi) := by
  obtain ⟨r0, r1, ha, ⟨eb, ib, er, ir, ei, ii, hb, hr, hii, db, dr, di, dbr, dbi, dri⟩, hl6, hg, hn⟩ := h
  simp only at r0 r1 ha hb hr hii hl6 hg hn
  have a2 := ha.push (own_flatE σ0 (A ka)) (by simp)
  have at2 := ha.at
  have K1 := Keep.set σ0 2 (.row (Enc.sz Bool) (((List.range ka).map A).map Enc.pv ++ [Enc.pv (A ka)]) (va + 1))
  have g1 : Good (σ0.set 2 (.row (Enc.sz Bool) (((List.range ka).map A).map Enc.pv ++ [Enc.pv (A ka)]) (va + 1))) :=
    Good.set hg _ _ _ (by rw [bels_append, bels_map]; simp only [PV.bels, Bool.and_true, Bool.true_and]; exact (own_flatE σ0 (A ka)).bel)
  have n1 : Nl [] (σ0.set 2 (.row (Enc.sz Bool) (((List.range ka).map A).map Enc.pv ++ [Enc.pv (A ka)]) (va + 1))) :=
    hn.set _ (row_nl (nls_append (hn.at (by simp) at2) (by simp only [PV.nls, Bool.and_true]; exact nl_bool _)))
  have b1 := hb.keep K1 (fun i hi hj => by simp at hj; have := db i hi; omega)
  have rr1 := hr.keep K1 (fun i hi hj => by simp at hj; have := dr i hi; omega)
  have i1 := hii.keep K1 (fun i hi hj => by simp at hj; have := di i hi; omega)
  have t01 := K1.get (by simp) r0
  have t11 := K1.get (by simp) r1
  refine ⟨σ0.set 2 (.row (Enc.sz Bool) (((List.range ka).map A).map Enc.pv ++ [Enc.pv (A ka)]) (va + 1)), _, at2, r1, rfl, t11, rfl, ?_⟩
  generalize σ0.set 2 (.row (Enc.sz Bool) (((List.range ka).map A).map Enc.pv ++ [Enc.pv (A ka)]) (va + 1)) = σ1 at *
  have hl1 : σ1.length = σ0.length := K1.1
  have K5 := Keep.set σ1 1 (ckQ x0 x1 (va + 1) (ka + 1) vb kb vr kr vi ki)
  refine ⟨K5.get (by simp) t01, List.getElem?_set_self (by omega), ?_, ⟨eb, ib, er, ir, ei, ii, ?_, ?_, ?_, db, dr, di, dbr, dbi, dri⟩, ?_, ?_, ?_⟩
  · have := a2.keep K5 (by simp)
    simp only; rw [map_succ]; simpa using this
  · exact b1.keep K5 (fun i hi hj => by simp at hj; have := db i hi; omega)
  · exact rr1.keep K5 (fun i hi hj => by simp at hj; have := dr i hi; omega)
  · exact i1.keep K5 (fun i hi hj => by simp at hj; have := di i hi; omega)
  · simp only [List.length_set]; omega
  · exact Good.set g1 _ _ _ (by simp [PV.bels, PV.bel]; omega)
  · exact n1.set _ (by simp [AObj.nl, PV.nls, PV.nl])
theorem BtQ.pushB (h : BtQ A C B I x0 x1 ka kb kr ki (σ0, va, vb, vr, vi)) {τ : List AObj} (e : Ext σ0 τ) (g : Good τ) (n : Nl [] τ) {js : List Nat} {p : PV} (o : OwnIn τ js p (C kb)) (hj : ∀ j ∈ js, σ0.length ≤ j) (hp : p.nl = true) :
    ∃ es σa σ1, τ[3]? = some (.row 1 es vb) ∧ es.length = kb ∧ τ[1]? = some (ckQ x0 x1 va ka vb kb vr kr vi ki) ∧ τ.set 3 (.row 1 (es ++ [p]) (vb + 1)) = σa ∧ σa[1]? = some (ckQ x0 x1 va ka vb kb vr kr vi ki) ∧ σa.set 1 (ckQ x0 x1 va ka (vb + 1) (kb + 1) vr kr vi ki) = σ1 ∧ BtQ A C B I x0 x1 ka (kb + 1) kr ki (σ1, va, vb + 1, vr, vi) := by
  obtain ⟨r0, r1, ha, ⟨eb, ib, er, ir, ei, ii, hb, hr, hii, db, dr, di, dbr, dbi, dri⟩, hl6, hg, hn⟩ := h
  simp only at r0 r1 ha hb hr hii hl6 hg hn
  have le := e.len
  have ibl : ∀ i ∈ ib, i < σ0.length := hb.lt
  have irl : ∀ i ∈ ir, i < σ0.length := hr.lt
  have iil : ∀ i ∈ ii, i < σ0.length := hii.lt
  have t0 := e.get r0
  have t1 := e.get r1
  have a0 := ha.ext e
  have b0 := hb.ext e
  have rr0 := hr.ext e
  have i0 := hii.ext e
  have len := b0.len
  simp only [List.length_map, List.length_range] at len
  have at2 := b0.at
  have K1 := Keep.set τ 3 (.row (Enc.sz (List GPush)) (eb ++ [p]) (vb + 1))
  have b1 := b0.push o (fun i hi hk => by have := ibl i hi; have := hj i hk; omega)
  have a1 := a0.keep K1 (by simp)
  have rr1 := rr0.keep K1 (fun i hi hk => by simp at hk; have := dr i hi; omega)
  have i1 := i0.keep K1 (fun i hi hk => by simp at hk; have := di i hi; omega)
  have g1 : Good (τ.set 3 (.row (Enc.sz (List GPush)) (eb ++ [p]) (vb + 1))) :=
    Good.set g _ _ _ (by rw [bels_append, Bool.and_eq_true]; exact ⟨Good.at g at2, by simp only [PV.bels, Bool.and_true]; exact o.bel⟩)
  have n1 : Nl [] (τ.set 3 (.row (Enc.sz (List GPush)) (eb ++ [p]) (vb + 1))) :=
    n.set _ (row_nl (nls_append (n.at (by simp) at2) (by simp only [PV.nls, Bool.and_true]; exact hp)))
  have t01 := K1.get (by simp) t0
  have t11 := K1.get (by simp) t1
  refine ⟨eb, τ.set 3 (.row (Enc.sz (List GPush)) (eb ++ [p]) (vb + 1)), _, at2, len, t1, rfl, t11, rfl, ?_⟩
  generalize τ.set 3 (.row (Enc.sz (List GPush)) (eb ++ [p]) (vb + 1)) = σ1 at *
  have hl1 : σ1.length = τ.length := K1.1
  have K5 := Keep.set σ1 1 (ckQ x0 x1 va ka (vb + 1) (kb + 1) vr kr vi ki)
  refine ⟨K5.get (by simp) t01, List.getElem?_set_self (by omega), a1.keep K5 (by simp), ⟨eb ++ [p], ib ++ js, er, ir, ei, ii, ?_, ?_, ?_, ?_, ?_, ?_, ?_, ?_, ?_⟩, ?_, ?_, ?_⟩
  · have := b1.keep K5 (fun i hi hk => by simp at hk; rcases List.mem_append.1 hi with hi | hi; have := db i hi; omega; have := hj i hi; omega)
    simp only; rw [map_succ]; exact this
  · exact rr1.keep K5 (fun i hi hk => by simp at hk; have := dr i hi; omega)
  · exact i1.keep K5 (fun i hi hk => by simp at hk; have := di i hi; omega)
  · intro i hi; rcases List.mem_append.1 hi with hi | hi; exact db i hi; have := hj i hi; omega
  · exact dr
  · exact di
  · intro i hi hk; rcases List.mem_append.1 hi with hi | hi; exact dbr i hi hk; have := hj i hi; have := irl i hk; omega
  · intro i hi hk; rcases List.mem_append.1 hi with hi | hi; exact dbi i hi hk; have := hj i hi; have := iil i hk; omega
  · exact dri
  · simp only [List.length_set]; omega
  · exact Good.set g1 _ _ _ (by simp [PV.bels, PV.bel]; omega)
  · exact n1.set _ (by simp [AObj.nl, PV.nls, PV.nl])
theorem BtQ.pushR (h : BtQ A C B I x0 x1 ka kb kr ki (σ0, va, vb, vr, vi)) {τ : List AObj} (e : Ext σ0 τ) (g : Good τ) (n : Nl [] τ) {js : List Nat} {p : PV} (o : OwnIn τ js p (B kr)) (hj : ∀ j ∈ js, σ0.length ≤ j) (hp : p.nl = true) :
    ∃ es σa σ1, τ[4]? = some (.row 1 es vr) ∧ es.length = kr ∧ τ[1]? = some (ckQ x0 x1 va ka vb kb vr kr vi ki) ∧ τ.set 4 (.row 1 (es ++ [p]) (vr + 1)) = σa ∧ σa[1]? = some (ckQ x0 x1 va ka vb kb vr kr vi ki) ∧ σa.set 1 (ckQ x0 x1 va ka vb kb (vr + 1) (kr + 1) vi ki) = σ1 ∧ BtQ A C B I x0 x1 ka kb (kr + 1) ki (σ1, va, vb, vr + 1, vi) := by
  obtain ⟨r0, r1, ha, ⟨eb, ib, er, ir, ei, ii, hb, hr, hii, db, dr, di, dbr, dbi, dri⟩, hl6, hg, hn⟩ := h
  simp only at r0 r1 ha hb hr hii hl6 hg hn
  have le := e.len
  have ibl : ∀ i ∈ ib, i < σ0.length := hb.lt
  have irl : ∀ i ∈ ir, i < σ0.length := hr.lt
  have iil : ∀ i ∈ ii, i < σ0.length := hii.lt
  have t0 := e.get r0
  have t1 := e.get r1
  have a0 := ha.ext e
  have b0 := hb.ext e
  have rr0 := hr.ext e
  have i0 := hii.ext e
  have len := rr0.len
  simp only [List.length_map, List.length_range] at len
  have at2 := rr0.at
  have K1 := Keep.set τ 4 (.row (Enc.sz (List (List Int))) (er ++ [p]) (vr + 1))
  have rr1 := rr0.push o (fun i hi hk => by have := irl i hi; have := hj i hk; omega)
  have a1 := a0.keep K1 (by simp)
  have b1 := b0.keep K1 (fun i hi hk => by simp at hk; have := db i hi; omega)
  have i1 := i0.keep K1 (fun i hi hk => by simp at hk; have := di i hi; omega)
  have g1 : Good (τ.set 4 (.row (Enc.sz (List (List Int))) (er ++ [p]) (vr + 1))) :=
    Good.set g _ _ _ (by rw [bels_append, Bool.and_eq_true]; exact ⟨Good.at g at2, by simp only [PV.bels, Bool.and_true]; exact o.bel⟩)
  have n1 : Nl [] (τ.set 4 (.row (Enc.sz (List (List Int))) (er ++ [p]) (vr + 1))) :=
    n.set _ (row_nl (nls_append (n.at (by simp) at2) (by simp only [PV.nls, Bool.and_true]; exact hp)))
  have t01 := K1.get (by simp) t0
  have t11 := K1.get (by simp) t1
  refine ⟨er, τ.set 4 (.row (Enc.sz (List (List Int))) (er ++ [p]) (vr + 1)), _, at2, len, t1, rfl, t11, rfl, ?_⟩
  generalize τ.set 4 (.row (Enc.sz (List (List Int))) (er ++ [p]) (vr + 1)) = σ1 at *
  have hl1 : σ1.length = τ.length := K1.1
  have K5 := Keep.set σ1 1 (ckQ x0 x1 va ka vb kb (vr + 1) (kr + 1) vi ki)
  refine ⟨K5.get (by simp) t01, List.getElem?_set_self (by omega), a1.keep K5 (by simp), ⟨eb, ib, er ++ [p], ir ++ js, ei, ii, ?_, ?_, ?_, ?_, ?_, ?_, ?_, ?_, ?_⟩, ?_, ?_, ?_⟩
  · exact b1.keep K5 (fun i hi hk => by simp at hk; have := db i hi; omega)
  · have := rr1.keep K5 (fun i hi hk => by simp at hk; rcases List.mem_append.1 hi with hi | hi; have := dr i hi; omega; have := hj i hi; omega)
    simp only; rw [map_succ]; exact this
  · exact i1.keep K5 (fun i hi hk => by simp at hk; have := di i hi; omega)
  · exact db
  · intro i hi; rcases List.mem_append.1 hi with hi | hi; exact dr i hi; have := hj i hi; omega
  · exact di
  · intro i hi hk; rcases List.mem_append.1 hk with hk | hk; exact dbr i hi hk; have := hj i hk; have := ibl i hi; omega
  · exact dbi
  · intro i hi hk; rcases List.mem_append.1 hi with hi | hi; exact dri i hi hk; have := hj i hi; have := iil i hk; omega
  · simp only [List.length_set]; omega
  · exact Good.set g1 _ _ _ (by simp [PV.bels, PV.bel]; omega)
  · exact n1.set _ (by simp [AObj.nl, PV.nls, PV.nl])
theorem BtQ.pushI (h : BtQ A C B I x0 x1 ka kb kr ki (σ0, va, vb, vr, vi)) {τ : List AObj} (e : Ext σ0 τ) (g : Good τ) (n : Nl [] τ) {js : List Nat} {p : PV} (o : OwnIn τ js p (I ki)) (hj : ∀ j ∈ js, σ0.length ≤ j) (hp : p.nl = true) :
    ∃ es σa σ1, τ[5]? = some (.row 1 es vi) ∧ es.length = ki ∧ τ[1]? = some (ckQ x0 x1 va ka vb kb vr kr vi ki) ∧ τ.set 5 (.row 1 (es ++ [p]) (vi + 1)) = σa ∧ σa[1]? = some (ckQ x0 x1 va ka vb kb vr kr vi ki) ∧ σa.set 1 (ckQ x0 x1 va ka vb kb vr kr (vi + 1) (ki + 1)) = σ1 ∧ BtQ A C B I x0 x1 ka kb kr (ki + 1) (σ1, va, vb, vr, vi + 1) := by
  obtain ⟨r0, r1, ha, ⟨eb, ib, er, ir, ei, ii, hb, hr, hii, db, dr, di, dbr, dbi, dri⟩, hl6, hg, hn⟩ := h
  simp only at r0 r1 ha hb hr hii hl6 hg hn
  have le := e.len
  have ibl : ∀ i ∈ ib, i < σ0.length := hb.lt
  have irl : ∀ i ∈ ir, i < σ0.length := hr.lt
  have iil : ∀ i ∈ ii, i < σ0.length := hii.lt
  have t0 := e.get r0
  have t1 := e.get r1
  have a0 := ha.ext e
  have b0 := hb.ext e
  have rr0 := hr.ext e
  have i0 := hii.ext e
  have len := i0.len
  simp only [List.length_map, List.length_range] at len
  have at2 := i0.at
  have K1 := Keep.set τ 5 (.row (Enc.sz (List Int)) (ei ++ [p]) (vi + 1))
  have i1 := i0.push o (fun i hi hk => by have := iil i hi; have := hj i hk; omega)
  have a1 := a0.keep K1 (by simp)
  have b1 := b0.keep K1 (fun i hi hk => by simp at hk; have := db i hi; omega)
  have rr1 := rr0.keep K1 (fun i hi hk => by simp at hk; have := dr i hi; omega)
  have g1 : Good (τ.set 5 (.row (Enc.sz (List Int)) (ei ++ [p]) (vi + 1))) :=
    Good.set g _ _ _ (by rw [bels_append, Bool.and_eq_true]; exact ⟨Good.at g at2, by simp only [PV.bels, Bool.and_true]; exact o.bel⟩)
  have n1 : Nl [] (τ.set 5 (.row (Enc.sz (List Int)) (ei ++ [p]) (vi + 1))) :=
    n.set _ (row_nl (nls_append (n.at (by simp) at2) (by simp only [PV.nls, Bool.and_true]; exact hp)))
  have t01 := K1.get (by simp) t0
  have t11 := K1.get (by simp) t1
  refine ⟨ei, τ.set 5 (.row (Enc.sz (List Int)) (ei ++ [p]) (vi + 1)), _, at2, len, t1, rfl, t11, rfl, ?_⟩
  generalize τ.set 5 (.row (Enc.sz (List Int)) (ei ++ [p]) (vi + 1)) = σ1 at *
  have hl1 : σ1.length = τ.length := K1.1
  have K5 := Keep.set σ1 1 (ckQ x0 x1 va ka vb kb vr kr (vi + 1) (ki + 1))
  refine ⟨K5.get (by simp) t01, List.getElem?_set_self (by omega), a1.keep K5 (by simp), ⟨eb, ib, er, ir, ei ++ [p], ii ++ js, ?_, ?_, ?_, ?_, ?_, ?_, ?_, ?_, ?_⟩, ?_, ?_, ?_⟩
  · exact b1.keep K5 (fun i hi hk => by simp at hk; have := db i hi; omega)
  · exact rr1.keep K5 (fun i hi hk => by simp at hk; have := dr i hi; omega)
  · have := i1.keep K5 (fun i hi hk => by simp at hk; rcases List.mem_append.1 hi with hi | hi; have := di i hi; omega; have := hj i hi; omega)
    simp only; rw [map_succ]; exact this
  · exact db
  · exact dr
  · intro i hi; rcases List.mem_append.1 hi with hi | hi; exact di i hi; have := hj i hi; omega
  · exact dbr
  · intro i hi hk; rcases List.mem_append.1 hk with hk | hk; exact dbi i hi hk; have := hj i hk; have := ibl i hi; omega
  · intro i hi hk; rcases List.mem_append.1 hk with hk | hk; exact dri i hi hk; have := hj i hk; have := irl i hi; omega
  · simp only [List.length_set]; omega
  · exact Good.set g1 _ _ _ (by simp [PV.bels, PV.bel]; omega)
  · exact n1.set _ (by simp [AObj.nl, PV.nls, PV.nl])
end
end Go.Proofs.Ytegjfjckijmgcaa
