/- Words: their symbols, validity, and how they match: the program's and the reference's. -/
import Derived.Test.YtoliadfdklfmfaaSmall
set_option linter.unusedVariables false
set_option linter.unusedSimpArgs false
set_option maxRecDepth 100000
namespace Go.Proofs.Ytoliadfdklfmfaa
open Aw

/-- The bytes of a text, as numbers. -/
def wl (w : ByteArray) : List Int := w.data.toList.map fun b => (b.toNat : Int)
@[simp] theorem wl_length (w : ByteArray) : (wl w).length = w.size := by simp [wl]
theorem bt_wl {w : ByteArray} {k : Nat} (h : k < w.size) : bt w k = (wl w)[k]'(by simpa using h) := by
  have h' : k < w.data.toList.length := by rw [Array.length_toList]; exact h
  have h2 : k < w.data.size := h
  simp only [bt, wl, List.getD_eq_getElem?_getD, Int.toNat_natCast, List.getElem?_eq_getElem h', Option.getD_some, List.getElem_map]
theorem bt_range (w : ByteArray) (i : Int) : 0 ≤ bt w i ∧ bt w i < 256 := by
  unfold bt
  have := (w.data.toList.getD i.toNat 0).toNat_lt
  omega
theorem wl_range {w : ByteArray} {c : Int} (h : c ∈ wl w) : 0 ≤ c ∧ c < 256 := by
  simp only [wl, List.mem_map] at h
  obtain ⟨b, _, rfl⟩ := h
  have := b.toNat_lt
  omega

def symIx (c : Int) : Int := if c = 40 then 0 else if c = 91 then 1 else if c = 41 then 2 else if c = 93 then 3 else if c = 97 then 4 else if c = 98 then 5 else -1
def okWord (w : ByteArray) : Bool := (wl w).all (fun c => decide (0 ≤ symIx c)) && decide (w.size ≤ 60)

theorem firstIdx_sym {c : Int} (h : 0 ≤ c ∧ c < 256) : firstIdx ⟨#[40, 91, 41, 93, 97, 98]⟩ c.toNat.toUInt8 = symIx c := by
  have key : ∀ n : Nat, n < 256 → firstIdx ⟨#[40, 91, 41, 93, 97, 98]⟩ n.toUInt8 = symIx n := by decide +kernel
  have := key c.toNat (by omega)
  rw [this]; congr 1; omega
theorem symIx_cases (c : Int) : c = 40 ∨ c = 91 ∨ c = 41 ∨ c = 93 ∨ c = 97 ∨ c = 98 ∨ (symIx c = -1 ∧ c ≠ 40 ∧ c ≠ 91 ∧ c ≠ 41 ∧ c ≠ 93 ∧ c ≠ 97 ∧ c ≠ 98) := by
  unfold symIx; repeat' split
  all_goals omega
/-! ### How the symbols of a word match -/
/-- What matches so far: the partners of all places, and the places of open calls (the innermost last). -/
abbrev Pst := List Int × List Int
def pstep (s : Pst) (c : Int) : Pst :=
  let i : Int := s.1.length
  if isCallB c = true then (s.1 ++ [-2], s.2 ++ [i])
  else if isRetB c = true then
    match s.2.getLast? with
    | some p => (s.1.set p.toNat i ++ [p], s.2.dropLast)
    | none => (s.1 ++ [-2], s.2)
  else (s.1 ++ [-1], s.2)
def pmatch (cs : List Int) : Pst := cs.foldl pstep ([], [])
/-- What holds of it on the way. -/
structure POk (k : Nat) (s : Pst) : Prop where
  len : s.1.length = k
  mem : ∀ p ∈ s.2, 0 ≤ p ∧ p < k
  opn : s.2.length ≤ k
theorem POk.step {k : Nat} {s : Pst} (h : POk k s) (c : Int) : POk (k + 1) (pstep s c) := by
  unfold pstep
  simp only
  split
  · refine ⟨by simp [h.len], fun p hp => ?_, by simp; exact h.opn⟩
    rcases List.mem_append.1 hp with hp | hp
    · have := h.mem p hp; omega
    · simp at hp; rw [h.len] at hp; omega
  · split
    · split
      · rename_i p hp
        refine ⟨by simp [h.len], fun q hq => ?_, by simp; have := h.opn; omega⟩
        have := h.mem q (List.dropLast_subset _ hq); omega
      · exact ⟨by simp [h.len], fun q hq => by have := h.mem q hq; omega, by have := h.opn; simp; omega⟩
    · exact ⟨by simp [h.len], fun q hq => by have := h.mem q hq; omega, by have := h.opn; simp; omega⟩
theorem retB_not_call {c : Int} (h : isRetB c = true) : isCallB c = false := by
  simp [isRetB, isCallB] at h ⊢; omega
@[simp] theorem nvRow_nil (σ : List AObj) (n : Nat) : nvRow σ n [] = [] := by simp [nvRow, PV.bels]
@[simp] theorem nvRow_one (σ : List AObj) (n : Nat) (p : PV) : nvRow σ n [p] = if p.bel 0 = true then [p] else [PV.nv σ n p] := by simp [nvRow, PV.bels]
@[simp] theorem mapO_app {α β : Type} (f : α → Option β) : ∀ xs ys : List α, mapO f (xs ++ ys) = match mapO f xs, mapO f ys with | some a, some b => some (a ++ b) | _, _ => none
  | [], ys => by simp [mapO]; cases mapO f ys <;> rfl
  | x :: xs, ys => by
    simp only [List.cons_append, mapO, mapO_app f xs ys]
    cases f x with
    | none => rfl
    | some a => cases mapO f xs <;> cases mapO f ys <;> rfl
theorem bels_set {n : Nat} {v : PV} (hv : v.bel n = true) : ∀ {xs : List PV} (i : Nat), PV.bels n xs = true → PV.bels n (xs.set i v) = true
  | [], i, h => by simp [PV.bels]
  | x :: xs, 0, h => by simp only [PV.bels, Bool.and_eq_true] at h; simp only [List.set_cons_zero, PV.bels, hv, h.2, Bool.and_self]
  | x :: xs, i + 1, h => by simp only [PV.bels, Bool.and_eq_true] at h; simp only [List.set_cons_succ, PV.bels, h.1, bels_set hv i h.2, Bool.and_self]
@[simp] theorem bels_set_val {n : Nat} {v : Value} {xs : List PV} (i : Nat) (h : PV.bels n xs = true) : PV.bels n (xs.set i (.val v)) = true := bels_set (by simp [PV.bel]) i h
@[simp] theorem wrap_zero : IntKind.i64.wrap 0 = 0 := wrap_i64 (by omega)
@[simp] theorem cast_succ_ne (n : Nat) : ((n : Int) + 1 = 0) = False := eq_false (by omega)
@[simp] theorem int_lt_succ (a : Int) : (a < a + 1) = True := eq_true (by omega)
@[simp] theorem get_snoc {α : Type} (l : List α) (x : α) : (l ++ [x])[l.length]? = some x := by simp
@[simp] theorem get_snoc_map {α β : Type} (f : α → β) (l : List α) (x : β) : (l.map f ++ [x])[l.length]? = some x := by
  rw [List.getElem?_append_right (by simp)]; simp
@[simp] theorem take_snoc_map {α β : Type} (f : α → β) (l : List α) (x : β) : (l.map f ++ [x]).take l.length = l.map f := by
  rw [List.take_append_of_le_length (by simp)]; simp

theorem pmatch_ok (cs : List Int) : POk cs.length (pmatch cs) := by
  have key : ∀ (cs : List Int) (s : Pst) (k : Nat), POk k s → POk (k + cs.length) (cs.foldl pstep s) := by
    intro cs
    induction cs with
    | nil => intro s k h; exact h
    | cons c cs ih =>
      intro s k h
      have := ih _ _ (h.step c)
      have e : k + 1 + cs.length = k + (c :: cs).length := by simp; omega
      rw [e] at this; exact this
  have := key cs ([], []) 0 ⟨rfl, by simp, by simp⟩
  simpa [pmatch] using this
/-- What the program's matching has on the way. -/
structure Mst where
  par : List Int
  ret : List Int
  cal : List Int
  dep : List Int
  prn : List Int
def lastOr (l : List Int) : Int := l.getLast?.getD (-1)
def mstep (m : Mst) (c : Int) : Mst :=
  let i : Int := m.par.length
  if isRetB c = true then
    match m.cal.getLast? with
    | some p => ⟨m.par.set p.toNat i ++ [p], m.ret, m.cal.dropLast, m.dep ++ [(m.cal.dropLast.length : Int)], m.prn ++ [lastOr m.cal.dropLast]⟩
    | none => ⟨m.par ++ [-2], m.ret ++ [i], m.cal, m.dep ++ [(m.cal.length : Int)], m.prn ++ [-1]⟩
  else if isCallB c = true then ⟨m.par ++ [-2], m.ret, m.cal ++ [i], m.dep ++ [(m.cal.length + 1 : Int)], m.prn ++ [lastOr m.cal]⟩
  else ⟨m.par ++ [-1], m.ret, m.cal, m.dep ++ [(m.cal.length : Int)], m.prn ++ [lastOr m.cal]⟩
def mmatch (cs : List Int) : Mst := cs.foldl mstep ⟨[], [], [], [0], []⟩
abbrev Mst.v (m : Mst) : PV := .agg [lst 1 m.par, lst 1 m.ret, lst 1 m.cal, lst 1 m.dep, lst 1 m.prn]
structure MOk (k : Nat) (m : Mst) : Prop where
  par : m.par.length = k
  ret : m.ret.length ≤ k
  cal : m.cal.length ≤ k
  dep : m.dep.length = k + 1
  prn : m.prn.length = k
  mem : ∀ p ∈ m.cal, 0 ≤ p ∧ p < k
theorem MOk.step {k : Nat} {m : Mst} (h : MOk k m) (c : Int) : MOk (k + 1) (mstep m c) := by
  obtain ⟨h1, h2, h3, h4, h5, h6⟩ := h
  unfold mstep
  simp only
  split
  · split
    · rename_i p hp
      exact ⟨by simp [h1], by simp; omega, by simp; omega, by simp [h4], by simp [h5], fun q hq => by have := h6 q (List.dropLast_subset _ hq); omega⟩
    · exact ⟨by simp [h1], by simp; omega, by simp; omega, by simp [h4], by simp [h5], fun q hq => by have := h6 q hq; omega⟩
  · split
    · refine ⟨by simp [h1], by simp; omega, by simp; omega, by simp [h4], by simp [h5], fun q hq => ?_⟩
      rcases List.mem_append.1 hq with hq | hq
      · have := h6 q hq; omega
      · simp at hq; omega
    · exact ⟨by simp [h1], by simp; omega, by simp; omega, by simp [h4], by simp [h5], fun q hq => by have := h6 q hq; omega⟩
@[simp] theorem ev_impl_size_int64 (a : List Int) : ev fns i_impl_size_int64 [lst 1 a] [] = some (i64 a.length, []) := by
  refine go_impl_size_int64 (by simp) ?_
  simp [ac_impl_size_int64]
theorem mmatch_ok (cs : List Int) : MOk cs.length (mmatch cs) := by
  have key : ∀ (cs : List Int) (s : Mst) (k : Nat), MOk k s → MOk (k + cs.length) (cs.foldl mstep s) := by
    intro cs
    induction cs with
    | nil => intro s k h; exact h
    | cons c cs ih =>
      intro s k h
      have := ih _ _ (h.step c)
      have e : k + 1 + cs.length = k + (c :: cs).length := by simp; omega
      rw [e] at this; exact this
  have := key cs ⟨[], [], [], [0], []⟩ 0 ⟨rfl, by simp, by simp, rfl, rfl, by simp⟩
  simpa [mmatch] using this
end Go.Proofs.Ytoliadfdklfmfaa
