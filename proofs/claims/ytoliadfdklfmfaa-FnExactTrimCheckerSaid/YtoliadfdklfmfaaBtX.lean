/- Checkers under way, each of the four lists by itself, with the objects that hold them. -/
import Derived.Test.YtoliadfdklfmfaaBuilt
set_option linter.unusedVariables false
set_option linter.unusedSimpArgs false
set_option maxRecDepth 100000
namespace Go.Proofs.Ytoliadfdklfmfaa
open Aw
@[simp] abbrev ckX (x0 x1 : Int) (va ka vb kb vr kr vi ki : Nat) : AObj := .row 6 [.agg [i64 x0, i64 x1, .own 2 va 0 ka, .own 3 vb 0 kb, .own 4 vr 0 kr, .own 5 vi 0 ki]] 0
structure BtX (A : Nat → Bool) (C : Nat → List GPush) (B : Nat → List (List Int)) (I : Nat → List Int) (x0 x1 : Int) (ka kb kr ki : Nat) (ib ir ii : List Nat) (s : S4) : Prop where
  r0 : s.1[0]? = some (.row 6 [zCk] 0)
  r1 : s.1[1]? = some (ckX x0 x1 s.2.1 ka s.2.2.1 kb s.2.2.2.1 kr s.2.2.2.2 ki)
  a : Lst s.1 2 s.2.1 (((List.range ka).map A).map Enc.pv) [2] ((List.range ka).map A)
  b : ∃ es, Lst s.1 3 s.2.2.1 es ib ((List.range kb).map C)
  r : ∃ es, Lst s.1 4 s.2.2.2.1 es ir ((List.range kr).map B)
  i : ∃ es, Lst s.1 5 s.2.2.2.2 es ii ((List.range ki).map I)
  db : ∀ i ∈ ib, i = 3 ∨ 6 ≤ i
  dr : ∀ i ∈ ir, i = 4 ∨ 6 ≤ i
  di : ∀ i ∈ ii, i = 5 ∨ 6 ≤ i
  dbr : ∀ i ∈ ib, i ∉ ir
  dbi : ∀ i ∈ ib, i ∉ ii
  dri : ∀ i ∈ ir, i ∉ ii
  l : 6 ≤ s.1.length
  g : Gud s.1
  n : Nl [] s.1
  v : s.2.1 ≤ ka ∧ s.2.2.1 ≤ kb ∧ s.2.2.2.1 ≤ kr ∧ s.2.2.2.2 ≤ ki
/-- What lies in objects of its own stays. -/
def Keeps (σ τ : List AObj) : Prop := ∀ (js : List Nat), (∀ j ∈ js, 6 ≤ j) → ∀ i ∈ js, τ[i]? = σ[i]?
theorem Keeps.own {σ τ : List AObj} (h : Keeps σ τ) (hl : τ.length = σ.length) {α : Type} [Enc α] [Own α] {js : List Nat} {p : PV} {x : α} (o : OwnIn σ js p x) (hj : ∀ j ∈ js, 6 ≤ j) : OwnIn τ js p x := o.keep hl (h js hj)
section
variable {A : Nat → Bool} {C : Nat → List GPush} {B : Nat → List (List Int)} {I : Nat → List Int} {x0 x1 : Int} {ka kb kr ki : Nat} {ib ir ii : List Nat} {σ0 : List AObj} {va vb vr vi : Nat}
theorem BtX.start (A : Nat → Bool) (C : Nat → List GPush) (B : Nat → List (List Int)) (I : Nat → List Int) (x0 x1 : Int) :
    BtX A C B I x0 x1 0 0 0 0 [3] [4] [5] ([.row 6 [zCk] 0, ckX x0 x1 0 0 0 0 0 0 0 0, .row 1 [] 0, .row 1 [] 0, .row 1 [] 0, .row 1 [] 0], 0, 0, 0, 0) := by
  refine ⟨rfl, rfl, ⟨rfl, rfl, ⟨[], rfl, trivial⟩, by simp, by simp⟩, ⟨[], rfl, rfl, ⟨[], rfl, trivial⟩, by simp, by simp⟩, ⟨[], rfl, rfl, ⟨[], rfl, trivial⟩, by simp, by simp⟩, ⟨[], rfl, rfl, ⟨[], rfl, trivial⟩, by simp, by simp⟩, by simp, by simp, by simp, by simp, by simp, by simp, by simp, ?_, ?_, by simp⟩
  · simp [Gud, objsBel, PV.bels, PV.bel]
  · refine GoodN.nlX ⟨?_, ?_⟩
    · simp [Gud, objsBel, PV.bels, PV.bel]
    · simp [AObj.nl, PV.nls, PV.nl]
theorem BtX.ext (h : BtX A C B I x0 x1 ka kb kr ki ib ir ii (σ0, va, vb, vr, vi)) {τ : List AObj} (e : Ext σ0 τ) (g : Gud τ) (n : Nl [] τ) : BtX A C B I x0 x1 ka kb kr ki ib ir ii (τ, va, vb, vr, vi) := by
  obtain ⟨r0, r1, ha, ⟨eb, hb⟩, ⟨er, hr⟩, ⟨ei, hi⟩, db, dr, di, dbr, dbi, dri, hl, _, _, v⟩ := h
  have := e.len
  exact ⟨e.get r0, e.get r1, ha.ext e, ⟨eb, hb.ext e⟩, ⟨er, hr.ext e⟩, ⟨ei, hi.ext e⟩, db, dr, di, dbr, dbi, dri, by simp only at hl ⊢; omega, g, n, v⟩
theorem BtX.pushA (h : BtX A C B I x0 x1 ka kb kr ki ib ir ii (σ0, va, vb, vr, vi)) : ∃ σa σ1, σ0[2]? = some (.row 1 (((List.range ka).map A).map Enc.pv) va) ∧ σ0[1]? = some (ckX x0 x1 va ka vb kb vr kr vi ki) ∧ σ0.set 2 (.row 1 (((List.range ka).map A).map Enc.pv ++ [Enc.pv (A ka)]) (va + 1)) = σa ∧ σa[1]? = some (ckX x0 x1 va ka vb kb vr kr vi ki) ∧ σa.set 1 (ckX x0 x1 (va + 1) (ka + 1) vb kb vr kr vi ki) = σ1 ∧ Keeps σ0 σ1 ∧ σ1.length = σ0.length ∧ BtX A C B I x0 x1 (ka + 1) kb kr ki ib ir ii (σ1, va + 1, vb, vr, vi) := by
  obtain ⟨r0, r1, ha, ⟨eb, hb⟩, ⟨er, hr⟩, ⟨ei, hi⟩, db, dr, di, dbr, dbi, dri, hl6, hg, hn, z1, z2, z3, z4⟩ := h
  simp only at r0 r1 ha hb hr hi hl6 hg hn z1 z2 z3 z4
  have at2 := ha.at
  have c2 := ha.push (own_flatE σ0 (A ka)) (by simp)
  have K1 := Keep.set σ0 2 (.row (Enc.sz (Bool)) ((((List.range ka).map A).map Enc.pv) ++ [(Enc.pv (A ka))]) (va + 1))
  have g1 : Gud (σ0.set 2 (.row (Enc.sz (Bool)) ((((List.range ka).map A).map Enc.pv) ++ [(Enc.pv (A ka))]) (va + 1))) := Gud.set hg _ _ _ (by rw [bels_append, bels_map]; simp only [PV.bels, Bool.and_true, Bool.true_and]; exact (own_flatE σ0 (A ka)).bel)
  have n1 : Nl [] (σ0.set 2 (.row (Enc.sz (Bool)) ((((List.range ka).map A).map Enc.pv) ++ [(Enc.pv (A ka))]) (va + 1))) := hn.set _ (row_nl (nls_append (hn.at (by simp) at2) (by simp only [PV.nls, Bool.and_true]; exact nl_bool _)))
  have b1 := hb.keep K1 (fun i hi hk => by simp at hk; have := db i hi; omega)
  have rr1 := hr.keep K1 (fun i hi hk => by simp at hk; have := dr i hi; omega)
  have i1 := hi.keep K1 (fun i hi hk => by simp at hk; have := di i hi; omega)
  have t01 := K1.get (by simp) r0
  have t11 := K1.get (by simp) r1
  refine ⟨σ0.set 2 (.row (Enc.sz (Bool)) ((((List.range ka).map A).map Enc.pv) ++ [(Enc.pv (A ka))]) (va + 1)), _, at2, r1, rfl, t11, rfl, ?_, ?_, ?_⟩
  · intro js hjs i hi
    have := hjs i hi
    rw [List.getElem?_set_ne (by omega), List.getElem?_set_ne (by omega)]
  · simp
  generalize σ0.set 2 (.row (Enc.sz (Bool)) ((((List.range ka).map A).map Enc.pv) ++ [(Enc.pv (A ka))]) (va + 1)) = σ1 at *
  have hl1 : σ1.length = σ0.length := K1.1
  have K5 := Keep.set σ1 1 (ckX x0 x1 (va + 1) (ka + 1) vb kb vr kr vi ki)
  refine ⟨K5.get (by simp) t01, List.getElem?_set_self (by omega), ?_, ⟨eb, ?_⟩, ⟨er, ?_⟩, ⟨ei, ?_⟩, db, dr, di, dbr, dbi, dri, by simp only [List.length_set]; omega, Gud.set g1 _ _ _ (by simp [PV.bels, PV.bel]; omega), n1.set _ (by simp [AObj.nl, PV.nls, PV.nl]), Nat.succ_le_succ z1, z2, z3, z4⟩
  · have := c2.keep K5 (by simp)
    simp only; rw [map_succ]; simpa using this
  · exact b1.keep K5 (fun i hi hk => by simp at hk; have := db i hi; omega)
  · exact rr1.keep K5 (fun i hi hk => by simp at hk; have := dr i hi; omega)
  · exact i1.keep K5 (fun i hi hk => by simp at hk; have := di i hi; omega)
theorem BtX.pushB (h : BtX A C B I x0 x1 ka kb kr ki ib ir ii (σ0, va, vb, vr, vi)) {js : List Nat} {p : PV} (o : OwnIn σ0 js p (C kb)) (hj : ∀ j ∈ js, 6 ≤ j ∧ j ∉ ib ∧ j ∉ ir ∧ j ∉ ii) (hp : p.nl = true) : ∃ es σa σ1, σ0[3]? = some (.row 1 es vb) ∧ es.length = kb ∧ σ0[1]? = some (ckX x0 x1 va ka vb kb vr kr vi ki) ∧ σ0.set 3 (.row 1 (es ++ [p]) (vb + 1)) = σa ∧ σa[1]? = some (ckX x0 x1 va ka vb kb vr kr vi ki) ∧ σa.set 1 (ckX x0 x1 va ka (vb + 1) (kb + 1) vr kr vi ki) = σ1 ∧ Keeps σ0 σ1 ∧ σ1.length = σ0.length ∧ BtX A C B I x0 x1 ka (kb + 1) kr ki (ib ++ js) ir ii (σ1, va, vb + 1, vr, vi) := by
  obtain ⟨r0, r1, ha, ⟨eb, hb⟩, ⟨er, hr⟩, ⟨ei, hi⟩, db, dr, di, dbr, dbi, dri, hl6, hg, hn, z1, z2, z3, z4⟩ := h
  simp only at r0 r1 ha hb hr hi hl6 hg hn z1 z2 z3 z4
  have at2 := hb.at
  have len := hb.len
  simp only [List.length_map, List.length_range] at len
  have c2 := hb.push o (fun i hi hk => (hj i hk).2.1 hi)
  have K1 := Keep.set σ0 3 (.row (Enc.sz (List GPush)) (eb ++ [p]) (vb + 1))
  have g1 : Gud (σ0.set 3 (.row (Enc.sz (List GPush)) (eb ++ [p]) (vb + 1))) := Gud.set hg _ _ _ (by rw [bels_append, Bool.and_eq_true]; exact ⟨Gud.at hg at2, by simp only [PV.bels, Bool.and_true]; exact o.bel⟩)
  have n1 : Nl [] (σ0.set 3 (.row (Enc.sz (List GPush)) (eb ++ [p]) (vb + 1))) := hn.set _ (row_nl (nls_append (hn.at (by simp) at2) (by simp only [PV.nls, Bool.and_true]; exact hp)))
  have a1 := ha.keep K1 (by simp)
  have rr1 := hr.keep K1 (fun i hi hk => by simp at hk; have := dr i hi; omega)
  have i1 := hi.keep K1 (fun i hi hk => by simp at hk; have := di i hi; omega)
  have t01 := K1.get (by simp) r0
  have t11 := K1.get (by simp) r1
  refine ⟨eb, σ0.set 3 (.row (Enc.sz (List GPush)) (eb ++ [p]) (vb + 1)), _, at2, len, r1, rfl, t11, rfl, ?_, ?_, ?_⟩
  · intro js hjs i hi
    have := hjs i hi
    rw [List.getElem?_set_ne (by omega), List.getElem?_set_ne (by omega)]
  · simp
  generalize σ0.set 3 (.row (Enc.sz (List GPush)) (eb ++ [p]) (vb + 1)) = σ1 at *
  have hl1 : σ1.length = σ0.length := K1.1
  have K5 := Keep.set σ1 1 (ckX x0 x1 va ka (vb + 1) (kb + 1) vr kr vi ki)
  refine ⟨K5.get (by simp) t01, List.getElem?_set_self (by omega), a1.keep K5 (by simp), ⟨eb ++ [p], ?_⟩, ⟨er, ?_⟩, ⟨ei, ?_⟩, fun i hi => by rcases List.mem_append.1 hi with hi | hi; exact db i hi; exact .inr (hj i hi).1, dr, di, fun i hi hk => by rcases List.mem_append.1 hi with hi | hi; exact dbr i hi hk; exact (hj i hi).2.2.1 hk, fun i hi hk => by rcases List.mem_append.1 hi with hi | hi; exact dbi i hi hk; exact (hj i hi).2.2.2 hk, dri, by simp only [List.length_set]; omega, Gud.set g1 _ _ _ (by simp [PV.bels, PV.bel]; omega), n1.set _ (by simp [AObj.nl, PV.nls, PV.nl]), z1, Nat.succ_le_succ z2, z3, z4⟩
  · have := c2.keep K5 (fun i hi hk => by simp at hk; rcases List.mem_append.1 hi with hi | hi; have := db i hi; omega; have := (hj i hi).1; omega)
    simp only; rw [map_succ]; exact this
  · exact rr1.keep K5 (fun i hi hk => by simp at hk; have := dr i hi; omega)
  · exact i1.keep K5 (fun i hi hk => by simp at hk; have := di i hi; omega)
theorem BtX.pushR (h : BtX A C B I x0 x1 ka kb kr ki ib ir ii (σ0, va, vb, vr, vi)) {js : List Nat} {p : PV} (o : OwnIn σ0 js p (B kr)) (hj : ∀ j ∈ js, 6 ≤ j ∧ j ∉ ib ∧ j ∉ ir ∧ j ∉ ii) (hp : p.nl = true) : ∃ es σa σ1, σ0[4]? = some (.row 1 es vr) ∧ es.length = kr ∧ σ0[1]? = some (ckX x0 x1 va ka vb kb vr kr vi ki) ∧ σ0.set 4 (.row 1 (es ++ [p]) (vr + 1)) = σa ∧ σa[1]? = some (ckX x0 x1 va ka vb kb vr kr vi ki) ∧ σa.set 1 (ckX x0 x1 va ka vb kb (vr + 1) (kr + 1) vi ki) = σ1 ∧ Keeps σ0 σ1 ∧ σ1.length = σ0.length ∧ BtX A C B I x0 x1 ka kb (kr + 1) ki ib (ir ++ js) ii (σ1, va, vb, vr + 1, vi) := by
  obtain ⟨r0, r1, ha, ⟨eb, hb⟩, ⟨er, hr⟩, ⟨ei, hi⟩, db, dr, di, dbr, dbi, dri, hl6, hg, hn, z1, z2, z3, z4⟩ := h
  simp only at r0 r1 ha hb hr hi hl6 hg hn z1 z2 z3 z4
  have at2 := hr.at
  have len := hr.len
  simp only [List.length_map, List.length_range] at len
  have c2 := hr.push o (fun i hi hk => (hj i hk).2.2.1 hi)
  have K1 := Keep.set σ0 4 (.row (Enc.sz (List (List Int))) (er ++ [p]) (vr + 1))
  have g1 : Gud (σ0.set 4 (.row (Enc.sz (List (List Int))) (er ++ [p]) (vr + 1))) := Gud.set hg _ _ _ (by rw [bels_append, Bool.and_eq_true]; exact ⟨Gud.at hg at2, by simp only [PV.bels, Bool.and_true]; exact o.bel⟩)
  have n1 : Nl [] (σ0.set 4 (.row (Enc.sz (List (List Int))) (er ++ [p]) (vr + 1))) := hn.set _ (row_nl (nls_append (hn.at (by simp) at2) (by simp only [PV.nls, Bool.and_true]; exact hp)))
  have a1 := ha.keep K1 (by simp)
  have b1 := hb.keep K1 (fun i hi hk => by simp at hk; have := db i hi; omega)
  have i1 := hi.keep K1 (fun i hi hk => by simp at hk; have := di i hi; omega)
  have t01 := K1.get (by simp) r0
  have t11 := K1.get (by simp) r1
  refine ⟨er, σ0.set 4 (.row (Enc.sz (List (List Int))) (er ++ [p]) (vr + 1)), _, at2, len, r1, rfl, t11, rfl, ?_, ?_, ?_⟩
  · intro js hjs i hi
    have := hjs i hi
    rw [List.getElem?_set_ne (by omega), List.getElem?_set_ne (by omega)]
  · simp
  generalize σ0.set 4 (.row (Enc.sz (List (List Int))) (er ++ [p]) (vr + 1)) = σ1 at *
  have hl1 : σ1.length = σ0.length := K1.1
  have K5 := Keep.set σ1 1 (ckX x0 x1 va ka vb kb (vr + 1) (kr + 1) vi ki)
  refine ⟨K5.get (by simp) t01, List.getElem?_set_self (by omega), a1.keep K5 (by simp), ⟨eb, ?_⟩, ⟨er ++ [p], ?_⟩, ⟨ei, ?_⟩, db, fun i hi => by rcases List.mem_append.1 hi with hi | hi; exact dr i hi; exact .inr (hj i hi).1, di, fun i hi hk => by rcases List.mem_append.1 hk with hk | hk; exact dbr i hi hk; exact (hj i hk).2.1 hi, dbi, fun i hi hk => by rcases List.mem_append.1 hi with hi | hi; exact dri i hi hk; exact (hj i hi).2.2.2 hk, by simp only [List.length_set]; omega, Gud.set g1 _ _ _ (by simp [PV.bels, PV.bel]; omega), n1.set _ (by simp [AObj.nl, PV.nls, PV.nl]), z1, z2, Nat.succ_le_succ z3, z4⟩
  · exact b1.keep K5 (fun i hi hk => by simp at hk; have := db i hi; omega)
  · have := c2.keep K5 (fun i hi hk => by simp at hk; rcases List.mem_append.1 hi with hi | hi; have := dr i hi; omega; have := (hj i hi).1; omega)
    simp only; rw [map_succ]; exact this
  · exact i1.keep K5 (fun i hi hk => by simp at hk; have := di i hi; omega)
theorem BtX.pushI (h : BtX A C B I x0 x1 ka kb kr ki ib ir ii (σ0, va, vb, vr, vi)) {js : List Nat} {p : PV} (o : OwnIn σ0 js p (I ki)) (hj : ∀ j ∈ js, 6 ≤ j ∧ j ∉ ib ∧ j ∉ ir ∧ j ∉ ii) (hp : p.nl = true) : ∃ es σa σ1, σ0[5]? = some (.row 1 es vi) ∧ es.length = ki ∧ σ0[1]? = some (ckX x0 x1 va ka vb kb vr kr vi ki) ∧ σ0.set 5 (.row 1 (es ++ [p]) (vi + 1)) = σa ∧ σa[1]? = some (ckX x0 x1 va ka vb kb vr kr vi ki) ∧ σa.set 1 (ckX x0 x1 va ka vb kb vr kr (vi + 1) (ki + 1)) = σ1 ∧ Keeps σ0 σ1 ∧ σ1.length = σ0.length ∧ BtX A C B I x0 x1 ka kb kr (ki + 1) ib ir (ii ++ js) (σ1, va, vb, vr, vi + 1) := by
  obtain ⟨r0, r1, ha, ⟨eb, hb⟩, ⟨er, hr⟩, ⟨ei, hi⟩, db, dr, di, dbr, dbi, dri, hl6, hg, hn, z1, z2, z3, z4⟩ := h
  simp only at r0 r1 ha hb hr hi hl6 hg hn z1 z2 z3 z4
  have at2 := hi.at
  have len := hi.len
  simp only [List.length_map, List.length_range] at len
  have c2 := hi.push o (fun i hi hk => (hj i hk).2.2.2 hi)
  have K1 := Keep.set σ0 5 (.row (Enc.sz (List Int)) (ei ++ [p]) (vi + 1))
  have g1 : Gud (σ0.set 5 (.row (Enc.sz (List Int)) (ei ++ [p]) (vi + 1))) := Gud.set hg _ _ _ (by rw [bels_append, Bool.and_eq_true]; exact ⟨Gud.at hg at2, by simp only [PV.bels, Bool.and_true]; exact o.bel⟩)
  have n1 : Nl [] (σ0.set 5 (.row (Enc.sz (List Int)) (ei ++ [p]) (vi + 1))) := hn.set _ (row_nl (nls_append (hn.at (by simp) at2) (by simp only [PV.nls, Bool.and_true]; exact hp)))
  have a1 := ha.keep K1 (by simp)
  have b1 := hb.keep K1 (fun i hi hk => by simp at hk; have := db i hi; omega)
  have rr1 := hr.keep K1 (fun i hi hk => by simp at hk; have := dr i hi; omega)
  have t01 := K1.get (by simp) r0
  have t11 := K1.get (by simp) r1
  refine ⟨ei, σ0.set 5 (.row (Enc.sz (List Int)) (ei ++ [p]) (vi + 1)), _, at2, len, r1, rfl, t11, rfl, ?_, ?_, ?_⟩
  · intro js hjs i hi
    have := hjs i hi
    rw [List.getElem?_set_ne (by omega), List.getElem?_set_ne (by omega)]
  · simp
  generalize σ0.set 5 (.row (Enc.sz (List Int)) (ei ++ [p]) (vi + 1)) = σ1 at *
  have hl1 : σ1.length = σ0.length := K1.1
  have K5 := Keep.set σ1 1 (ckX x0 x1 va ka vb kb vr kr (vi + 1) (ki + 1))
  refine ⟨K5.get (by simp) t01, List.getElem?_set_self (by omega), a1.keep K5 (by simp), ⟨eb, ?_⟩, ⟨er, ?_⟩, ⟨ei ++ [p], ?_⟩, db, dr, fun i hi => by rcases List.mem_append.1 hi with hi | hi; exact di i hi; exact .inr (hj i hi).1, dbr, fun i hi hk => by rcases List.mem_append.1 hk with hk | hk; exact dbi i hi hk; exact (hj i hk).2.1 hi, fun i hi hk => by rcases List.mem_append.1 hk with hk | hk; exact dri i hi hk; exact (hj i hk).2.2.1 hi, by simp only [List.length_set]; omega, Gud.set g1 _ _ _ (by simp [PV.bels, PV.bel]; omega), n1.set _ (by simp [AObj.nl, PV.nls, PV.nl]), z1, z2, z3, Nat.succ_le_succ z4⟩
  · exact b1.keep K5 (fun i hi hk => by simp at hk; have := db i hi; omega)
  · exact rr1.keep K5 (fun i hi hk => by simp at hk; have := dr i hi; omega)
  · have := c2.keep K5 (fun i hi hk => by simp at hk; rcases List.mem_append.1 hi with hi | hi; have := di i hi; omega; have := (hj i hi).1; omega)
    simp only; rw [map_succ]; exact this
end
end Go.Proofs.Ytoliadfdklfmfaa
