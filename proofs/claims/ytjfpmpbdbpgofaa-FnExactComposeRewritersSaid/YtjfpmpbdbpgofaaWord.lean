/- Words: their symbols, validity, and how they match: the program's and the reference's. -/
import Derived.Test.YtjfpmpbdbpgofaaSmall
set_option linter.unusedVariables false
set_option linter.unusedSimpArgs false
set_option maxRecDepth 100000
namespace Go.Proofs.Ytjfpmpbdbpgofaa
open Aw

/-- The bytes of a text, as numbers. -/
def wl (w : ByteArray) : List Int := w.data.toList.map fun b => (b.toNat : Int)
@[simp] theorem wl_length (w : ByteArray) : (wl w).length = w.size := by simp [wl]
theorem bt_wl {w : ByteArray} {k : Nat} (h : k < w.size) : bt w k = (wl w)[k]'(by simpa using h) := by
  have h' : k < w.data.toList.length := by rw [Array.length_toList]; exact h
  have h2 : k < w.data.size := h
  simp only [bt, wl, List.getD_eq_getElem?_getD, Int.toNat_natCast, List.getElem?_eq_getElem h', Option.getD_some, List.getElem_map]
theorem bt_range (w : ByteArray) (i : Int) : 0 ≤ bt w i ∧ bt w i < 256 := by
  unfold bt
  have := (w.data.toList.getD i.toNat 0).toNat_lt
  omega
theorem wl_range {w : ByteArray} {c : Int} (h : c ∈ wl w) : 0 ≤ c ∧ c < 256 := by
  simp only [wl, List.mem_map] at h
  obtain ⟨b, _, rfl⟩ := h
  have := b.toNat_lt
  omega

def symIx (c : Int) : Int := if c = 40 then 0 else if c = 91 then 1 else if c = 41 then 2 else if c = 93 then 3 else if c = 97 then 4 else if c = 98 then 5 else -1
def okWord (w : ByteArray) : Bool := (wl w).all (fun c => decide (0 ≤ symIx c)) && decide (w.size ≤ 60)

theorem firstIdx_sym {c : Int} (h : 0 ≤ c ∧ c < 256) : firstIdx ⟨#[40, 91, 41, 93, 97, 98]⟩ c.toNat.toUInt8 = symIx c := by
  have key : ∀ n : Nat, n < 256 → firstIdx ⟨#[40, 91, 41, 93, 97, 98]⟩ n.toUInt8 = symIx n := by decide +kernel
  have := key c.toNat (by omega)
  rw [this]; congr 1; omega
theorem ev_stringslite_IndexByte (s : ByteArray) (c : Int) : ev fns i_internal_stringslite_IndexByte [str s, u8 c] [] = some (i64 (firstIdx s c.toNat.toUInt8), []) := by
  refine go_internal_stringslite_IndexByte (by simp) ?_
  simp [ac_internal_stringslite_IndexByte]
@[simp] theorem ev_strings_IndexByte (s : ByteArray) (c : Int) : ev fns i_strings_IndexByte [str s, u8 c] [] = some (i64 (firstIdx s c.toNat.toUInt8), []) := by
  refine go_strings_IndexByte (by simp) ?_
  have := ev_stringslite_IndexByte s c
  simp at this
  simp [ac_strings_IndexByte, this]
theorem symIx_cases (c : Int) : c = 40 ∨ c = 91 ∨ c = 41 ∨ c = 93 ∨ c = 97 ∨ c = 98 ∨ (symIx c = -1 ∧ c ≠ 40 ∧ c ≠ 91 ∧ c ≠ 41 ∧ c ≠ 93 ∧ c ≠ 97 ∧ c ≠ 98) := by
  unfold symIx; repeat' split
  all_goals omega
@[simp] theorem ev_spec_l01Symbol (c : Int) : ev fns i_spec_l01Symbol [u8 c] [] = some (i64 (symIx c), []) := by
  refine go_spec_l01Symbol (by simp) ?_
  have b0 : bt ⟨#[40, 91, 41, 93, 97, 98]⟩ 0 = 40 := rfl
  have b1 : bt ⟨#[40, 91, 41, 93, 97, 98]⟩ 1 = 91 := rfl
  have b2 : bt ⟨#[40, 91, 41, 93, 97, 98]⟩ 2 = 41 := rfl
  have b3 : bt ⟨#[40, 91, 41, 93, 97, 98]⟩ 3 = 93 := rfl
  have b4 : bt ⟨#[40, 91, 41, 93, 97, 98]⟩ 4 = 97 := rfl
  have b5 : bt ⟨#[40, 91, 41, 93, 97, 98]⟩ 5 = 98 := rfl
  have lo := fun ks => loop_ix (F := fun k => rE fns fa_spec_l01Symbol 0 (.code lo_spec_l01Symbol_0 :: .inBlock 0 :: ks) [(3, i64 k), (0, u8 c)] []) (a := [40, 91, 41, 93, 97, 98]) (p := fun x => decide (x = c))
    (e := rE fns fa_spec_l01Symbol 0 ks [] []) (r := fun i => some (i64 i, []))
    (fun k h => by
      have hz : (ByteArray.mk #[40, 91, 41, 93, 97, 98]).size = 6 := rfl
      simp at h
      have hw := wrap_i64 (n := k + 1) (by omega)
      rw [l_spec_l01Symbol_0]
      match k, h with
      | 0, _ => refine ⟨fun hc => ?_, fun hc => ?_⟩ <;> simp at hc <;> simp [lb_spec_l01Symbol_0, hz, b0, hc, wrap_i64]
      | 1, _ => refine ⟨fun hc => ?_, fun hc => ?_⟩ <;> simp at hc <;> simp [lb_spec_l01Symbol_0, hz, b1, hc, wrap_i64]
      | 2, _ => refine ⟨fun hc => ?_, fun hc => ?_⟩ <;> simp at hc <;> simp [lb_spec_l01Symbol_0, hz, b2, hc, wrap_i64]
      | 3, _ => refine ⟨fun hc => ?_, fun hc => ?_⟩ <;> simp at hc <;> simp [lb_spec_l01Symbol_0, hz, b3, hc, wrap_i64]
      | 4, _ => refine ⟨fun hc => ?_, fun hc => ?_⟩ <;> simp at hc <;> simp [lb_spec_l01Symbol_0, hz, b4, hc, wrap_i64]
      | 5, _ => refine ⟨fun hc => ?_, fun hc => ?_⟩ <;> simp at hc <;> simp [lb_spec_l01Symbol_0, hz, b5, hc, wrap_i64])
    (by rw [l_spec_l01Symbol_0]; simp [lb_spec_l01Symbol_0])
  simp at lo
  have hix : firstIx (fun x => decide (x = c)) [40, 91, 41, 93, 97, 98] = if symIx c < 0 then none else some (symIx c).toNat := by
    rcases symIx_cases c with rfl | rfl | rfl | rfl | rfl | rfl | ⟨h, h1, h2, h3, h4, h5, h6⟩
    · rfl
    · rfl
    · rfl
    · rfl
    · rfl
    · rfl
    · rw [h]; simp [firstIx, Ne.symm h1, Ne.symm h2, Ne.symm h3, Ne.symm h4, Ne.symm h5, Ne.symm h6]
  rw [hix] at lo
  by_cases hs : symIx c < 0
  · have : symIx c = -1 := by rcases symIx_cases c with rfl | rfl | rfl | rfl | rfl | rfl | ⟨h, _⟩ <;> first | exact h | (simp [symIx] at hs)
    simp [ac_spec_l01Symbol, lo, hs, this]
  · simp [ac_spec_l01Symbol, lo, hs]; omega

@[simp] theorem ev_impl_ValidWord (w : ByteArray) (hz : w.size ≤ 9223372036854775806) : ev fns i_impl_ValidWord [str w] [] = some (bol (okWord w), []) := by
  refine go_impl_ValidWord (by simp) ?_
  have lo := fun ks => loop_forall (F := fun k => rE fns fa_impl_ValidWord 0 (.code lo_impl_ValidWord_0 :: .inBlock 0 :: ks) [(6, i64 k), (5, i64 w.size), (0, str w)] []) (a := wl w) (p := fun c => decide (0 ≤ symIx c))
    (e := rE fns fa_impl_ValidWord 0 ks [(0, str w)] []) (r := some (bol false, []))
    (fun k h => by
      have hk : k < w.size := by simpa using h
      have hw := wrap_i64 (n := k + 1) (by omega)
      have hb := bt_wl hk
      have hf := firstIdx_sym (wl_range (List.getElem_mem h))
      rw [l_impl_ValidWord_0]
      refine ⟨fun c => ?_, fun c => ?_⟩
      · simp at c
        simp [lb_impl_ValidWord_0, hk, hw, hb, hf, show ¬ (symIx (wl w)[k] < 0) by omega]
      · simp at c
        simp [lb_impl_ValidWord_0, hk, hw, hb, hf, c])
    (by rw [l_impl_ValidWord_0]; simp [lb_impl_ValidWord_0])
  simp at lo
  unfold okWord
  cases c : (wl w).all (fun c => decide (0 ≤ symIx c))
  · have c' : ¬ ∀ x ∈ wl w, 0 ≤ symIx x := by intro hh; rw [List.all_eq_true.2 (fun x hx => by simpa using hh x hx)] at c; cases c
    simp [ac_impl_ValidWord, lo, eq_false c']
  · have c' : ∀ x ∈ wl w, 0 ≤ symIx x := by simpa using c
    simp [ac_impl_ValidWord, lo, eq_true c']
    omega
@[simp] theorem ev_spec_l01Ok (w : ByteArray) (hz : w.size ≤ 9223372036854775806) : ev fns i_spec_l01Ok [str w] [] = some (bol (okWord w), []) := by
  refine go_spec_l01Ok (by simp) ?_
  have lo := fun ks => loop_forall (F := fun k => rE fns fa_spec_l01Ok 0 (.code lo_spec_l01Ok_0 :: .inBlock 0 :: ks) [(3, i64 k), (0, str w)] []) (a := wl w) (p := fun c => decide (0 ≤ symIx c))
    (e := rE fns fa_spec_l01Ok 0 ks [(0, str w)] []) (r := some (bol false, []))
    (fun k h => by
      have hk : k < w.size := by simpa using h
      have hw := wrap_i64 (n := k + 1) (by omega)
      have hb := bt_wl hk
      rw [l_spec_l01Ok_0]
      refine ⟨fun c => ?_, fun c => ?_⟩
      · simp at c
        simp [lb_spec_l01Ok_0, hk, hw, hb, show ¬ (symIx (wl w)[k] < 0) by omega]
      · simp at c
        simp [lb_spec_l01Ok_0, hk, hw, hb, c])
    (by rw [l_spec_l01Ok_0]; simp [lb_spec_l01Ok_0])
  simp at lo
  unfold okWord
  cases c : (wl w).all (fun c => decide (0 ≤ symIx c))
  · have c' : ¬ ∀ x ∈ wl w, 0 ≤ symIx x := by intro hh; rw [List.all_eq_true.2 (fun x hx => by simpa using hh x hx)] at c; cases c
    simp [ac_spec_l01Ok, lo, eq_false c']
  · have c' : ∀ x ∈ wl w, 0 ≤ symIx x := by simpa using c
    simp [ac_spec_l01Ok, lo, eq_true c']
    omega

/-! ### How the symbols of a word match -/
/-- What matches so far: the partners of all places, and the places of open calls (the innermost last). -/
abbrev Pst := List Int × List Int
def pstep (s : Pst) (c : Int) : Pst :=
  let i : Int := s.1.length
  if isCallB c = true then (s.1 ++ [-2], s.2 ++ [i])
  else if isRetB c = true then
    match s.2.getLast? with
    | some p => (s.1.set p.toNat i ++ [p], s.2.dropLast)
    | none => (s.1 ++ [-2], s.2)
  else (s.1 ++ [-1], s.2)
def pmatch (cs : List Int) : Pst := cs.foldl pstep ([], [])
/-- What holds of it on the way. -/
structure POk (k : Nat) (s : Pst) : Prop where
  len : s.1.length = k
  mem : ∀ p ∈ s.2, 0 ≤ p ∧ p < k
  opn : s.2.length ≤ k
theorem POk.step {k : Nat} {s : Pst} (h : POk k s) (c : Int) : POk (k + 1) (pstep s c) := by
  unfold pstep
  simp only
  split
  · refine ⟨by simp [h.len], fun p hp => ?_, by simp; exact h.opn⟩
    rcases List.mem_append.1 hp with hp | hp
    · have := h.mem p hp; omega
    · simp at hp; rw [h.len] at hp; omega
  · split
    · split
      · rename_i p hp
        refine ⟨by simp [h.len], fun q hq => ?_, by simp; have := h.opn; omega⟩
        have := h.mem q (List.dropLast_subset _ hq); omega
      · exact ⟨by simp [h.len], fun q hq => by have := h.mem q hq; omega, by have := h.opn; simp; omega⟩
    · exact ⟨by simp [h.len], fun q hq => by have := h.mem q hq; omega, by have := h.opn; simp; omega⟩
theorem retB_not_call {c : Int} (h : isRetB c = true) : isCallB c = false := by
  simp [isRetB, isCallB] at h ⊢; omega
@[simp] theorem nvRow_nil (σ : List AObj) (n : Nat) : nvRow σ n [] = [] := by simp [nvRow, PV.bels]
@[simp] theorem nvRow_one (σ : List AObj) (n : Nat) (p : PV) : nvRow σ n [p] = if p.bel 0 = true then [p] else [PV.nv σ n p] := by simp [nvRow, PV.bels]
@[simp] theorem mapO_app {α β : Type} (f : α → Option β) : ∀ xs ys : List α, mapO f (xs ++ ys) = match mapO f xs, mapO f ys with | some a, some b => some (a ++ b) | _, _ => none
  | [], ys => by simp [mapO]; cases mapO f ys <;> rfl
  | x :: xs, ys => by
    simp only [List.cons_append, mapO, mapO_app f xs ys]
    cases f x with
    | none => rfl
    | some a => cases mapO f xs <;> cases mapO f ys <;> rfl
theorem bels_set {n : Nat} {v : PV} (hv : v.bel n = true) : ∀ {xs : List PV} (i : Nat), PV.bels n xs = true → PV.bels n (xs.set i v) = true
  | [], i, h => by simp [PV.bels]
  | x :: xs, 0, h => by simp only [PV.bels, Bool.and_eq_true] at h; simp only [List.set_cons_zero, PV.bels, hv, h.2, Bool.and_self]
  | x :: xs, i + 1, h => by simp only [PV.bels, Bool.and_eq_true] at h; simp only [List.set_cons_succ, PV.bels, h.1, bels_set hv i h.2, Bool.and_self]
@[simp] theorem bels_set_val {n : Nat} {v : Value} {xs : List PV} (i : Nat) (h : PV.bels n xs = true) : PV.bels n (xs.set i (.val v)) = true := bels_set (by simp [PV.bel]) i h
@[simp] theorem wrap_zero : IntKind.i64.wrap 0 = 0 := wrap_i64 (by omega)
@[simp] theorem cast_succ_ne (n : Nat) : ((n : Int) + 1 = 0) = False := eq_false (by omega)
@[simp] theorem int_lt_succ (a : Int) : (a < a + 1) = True := eq_true (by omega)
@[simp] theorem get_snoc {α : Type} (l : List α) (x : α) : (l ++ [x])[l.length]? = some x := by simp
@[simp] theorem get_snoc_map {α β : Type} (f : α → β) (l : List α) (x : β) : (l.map f ++ [x])[l.length]? = some x := by
  rw [List.getElem?_append_right (by simp)]; simp
@[simp] theorem take_snoc_map {α β : Type} (f : α → β) (l : List α) (x : β) : (l.map f ++ [x]).take l.length = l.map f := by
  rw [List.take_append_of_le_length (by simp)]; simp

theorem lo_spec_l01Partners (w : ByteArray) (hz : w.size ≤ 1048576) (ks : List KI) :
    rE fns fa_spec_l01Partners 0 (.code lo_spec_l01Partners_0 :: .inBlock 0 :: ks) [(5, i64 0), (4, .own 1 0 0 0), (3, .own 0 0 0 0), (0, str w)] [.row 1 [] 0, .row 1 [] 0] =
      rE fns fa_spec_l01Partners 0 ks [(3, .own 0 0 0 (pmatch (wl w)).1.length)] [.row 1 ((pmatch (wl w)).1.map Enc.pv) 0, .row 1 ((pmatch (wl w)).2.map Enc.pv) 0] := by
  have lo := loop_fold (F := fun k s => rE fns fa_spec_l01Partners 0 (.code lo_spec_l01Partners_0 :: .inBlock 0 :: ks) [(5, i64 (k : Nat)), (4, .own 1 0 0 s.2.length), (3, .own 0 0 0 s.1.length), (0, str w)] [.row 1 (s.1.map Enc.pv) 0, .row 1 (s.2.map Enc.pv) 0]) (ls := wl w) (f := pstep) POk
    (fun k s h hI => by
      refine ⟨?_, hI.step _⟩
      have hk : k < w.size := by simpa using h
      have hw := wrap_i64 (n := k + 1) (by omega)
      have hb := bt_wl hk
      obtain ⟨out, opn⟩ := s
      have hl := hI.len
      have ho := hI.opn
      simp only at hl ho
      rw [l_spec_l01Partners_0]
      unfold pstep
      have b1 : (out.length + 1) * 8 ≤ 140737488355328 := by omega
      have b2 : (opn.length + 1) * 8 ≤ 140737488355328 := by omega
      cases c1 : isCallB (wl w)[k]
      · cases c2 : isRetB (wl w)[k]
        · simp [lb_spec_l01Partners_0, hk, hw, hb, c1, c2, b1, b2]
        · rcases List.eq_nil_or_concat opn with rfl | ⟨pre, p, rfl⟩
          · simp [lb_spec_l01Partners_0, hk, hw, hb, c1, c2, b1]
          · rw [List.concat_eq_append] at *
            have hp := hI.mem p (by simp)
            have hw2 := wrap_i64 (n := pre.length) (by simp at ho; omega)
            have hp2 : p < out.length := by omega
            have hp3 : p.toNat < out.length := by omega
            simp [lb_spec_l01Partners_0, hk, hw, hb, c1, c2, b1, hw2, hp.1, hp2, hp3]
            rw [hl]
      · have b1 : (k + 1) * 8 ≤ 140737488355328 := by omega
        simp [lb_spec_l01Partners_0, hk, hw, hb, c1, b1, b2, hl])
    (s := ([], [])) ⟨rfl, by simp, by simp⟩
  simp at lo
  rw [lo.1, l_spec_l01Partners_0]
  simp [lb_spec_l01Partners_0, pmatch]

theorem pmatch_ok (cs : List Int) : POk cs.length (pmatch cs) := by
  have key : ∀ (cs : List Int) (s : Pst) (k : Nat), POk k s → POk (k + cs.length) (cs.foldl pstep s) := by
    intro cs
    induction cs with
    | nil => intro s k h; exact h
    | cons c cs ih =>
      intro s k h
      have := ih _ _ (h.step c)
      have e : k + 1 + cs.length = k + (c :: cs).length := by simp; omega
      rw [e] at this; exact this
  have := key cs ([], []) 0 ⟨rfl, by simp, by simp⟩
  simpa [pmatch] using this
@[simp] theorem ev_spec_l01Partners (w : ByteArray) (hz : w.size ≤ 1048576) : ev fns i_spec_l01Partners [str w] [] = some (lst 1 (pmatch (wl w)).1, []) := by
  refine go_spec_l01Partners (by simp) ?_
  have lo := lo_spec_l01Partners w hz
  have hl := (pmatch_ok (wl w)).len
  have b : (pmatch (wl w)).1.length ≤ 140737488355328 := by rw [hl]; simp; omega
  simp [ac_spec_l01Partners, lo, b]

/-- What the program's matching has on the way. -/
structure Mst where
  par : List Int
  ret : List Int
  cal : List Int
  dep : List Int
  prn : List Int
def lastOr (l : List Int) : Int := l.getLast?.getD (-1)
def mstep (m : Mst) (c : Int) : Mst :=
  let i : Int := m.par.length
  if isRetB c = true then
    match m.cal.getLast? with
    | some p => ⟨m.par.set p.toNat i ++ [p], m.ret, m.cal.dropLast, m.dep ++ [(m.cal.dropLast.length : Int)], m.prn ++ [lastOr m.cal.dropLast]⟩
    | none => ⟨m.par ++ [-2], m.ret ++ [i], m.cal, m.dep ++ [(m.cal.length : Int)], m.prn ++ [-1]⟩
  else if isCallB c = true then ⟨m.par ++ [-2], m.ret, m.cal ++ [i], m.dep ++ [(m.cal.length + 1 : Int)], m.prn ++ [lastOr m.cal]⟩
  else ⟨m.par ++ [-1], m.ret, m.cal, m.dep ++ [(m.cal.length : Int)], m.prn ++ [lastOr m.cal]⟩
def mmatch (cs : List Int) : Mst := cs.foldl mstep ⟨[], [], [], [0], []⟩
abbrev Mst.v (m : Mst) : PV := .agg [lst 1 m.par, lst 1 m.ret, lst 1 m.cal, lst 1 m.dep, lst 1 m.prn]
structure MOk (k : Nat) (m : Mst) : Prop where
  par : m.par.length = k
  ret : m.ret.length ≤ k
  cal : m.cal.length ≤ k
  dep : m.dep.length = k + 1
  prn : m.prn.length = k
  mem : ∀ p ∈ m.cal, 0 ≤ p ∧ p < k
theorem MOk.step {k : Nat} {m : Mst} (h : MOk k m) (c : Int) : MOk (k + 1) (mstep m c) := by
  obtain ⟨h1, h2, h3, h4, h5, h6⟩ := h
  unfold mstep
  simp only
  split
  · split
    · rename_i p hp
      exact ⟨by simp [h1], by simp; omega, by simp; omega, by simp [h4], by simp [h5], fun q hq => by have := h6 q (List.dropLast_subset _ hq); omega⟩
    · exact ⟨by simp [h1], by simp; omega, by simp; omega, by simp [h4], by simp [h5], fun q hq => by have := h6 q hq; omega⟩
  · split
    · refine ⟨by simp [h1], by simp; omega, by simp; omega, by simp [h4], by simp [h5], fun q hq => ?_⟩
      rcases List.mem_append.1 hq with hq | hq
      · have := h6 q hq; omega
      · simp at hq; omega
    · exact ⟨by simp [h1], by simp; omega, by simp; omega, by simp [h4], by simp [h5], fun q hq => by have := h6 q hq; omega⟩
@[simp] theorem ev_impl_size_int64 (a : List Int) : ev fns i_impl_size_int64 [lst 1 a] [] = some (i64 a.length, []) := by
  refine go_impl_size_int64 (by simp) ?_
  simp [ac_impl_size_int64]
set_option maxHeartbeats 2000000 in
theorem step_impl_match (w : ByteArray) (hz : w.size ≤ 1048576) (k : Nat) (hk : k < w.size) (c : Int) (hb : bt w k = c) (m : Mst) (hI : MOk k m) (ks : List KI) :
    rE fns fa_impl_match 0 (.code lo_impl_match_0 :: .inBlock 0 :: ks) [(14, i64 k), (13, i64 w.size), (3, .ptr 2 0 0 0), (2, .ptr 0 0 0 0), (0, str w)]
        [.row 5 [.agg [.val (.slice none 0 0), .val (.slice none 0 0), .val (.slice none 0 0), .val (.slice none 0 0), .val (.slice none 0 0)]] 0, .row 1 (m.dep.map Enc.pv) 0,
          .row 5 [.agg [.own 3 0 0 m.par.length, .own 4 0 0 m.ret.length, .own 5 0 0 m.cal.length, .own 1 0 0 m.dep.length, .own 6 0 0 m.prn.length]] 0,
          .row 1 (m.par.map Enc.pv) 0, .row 1 (m.ret.map Enc.pv) 0, .row 1 (m.cal.map Enc.pv) 0, .row 1 (m.prn.map Enc.pv) 0] =
      rE fns fa_impl_match 0 (.code lo_impl_match_0 :: .inBlock 0 :: ks) [(14, i64 (k + 1)), (13, i64 w.size), (3, .ptr 2 0 0 0), (2, .ptr 0 0 0 0), (0, str w)]
        [.row 5 [.agg [.val (.slice none 0 0), .val (.slice none 0 0), .val (.slice none 0 0), .val (.slice none 0 0), .val (.slice none 0 0)]] 0, .row 1 ((mstep m c).dep.map Enc.pv) 0,
          .row 5 [.agg [.own 3 0 0 (mstep m c).par.length, .own 4 0 0 (mstep m c).ret.length, .own 5 0 0 (mstep m c).cal.length, .own 1 0 0 (mstep m c).dep.length, .own 6 0 0 (mstep m c).prn.length]] 0,
          .row 1 ((mstep m c).par.map Enc.pv) 0, .row 1 ((mstep m c).ret.map Enc.pv) 0, .row 1 ((mstep m c).cal.map Enc.pv) 0, .row 1 ((mstep m c).prn.map Enc.pv) 0] := by
  have hw := wrap_i64 (n := k + 1) (by omega)
  obtain ⟨par, ret, cal, dep, prn⟩ := m
  obtain ⟨h1, h2, h3, h4, h5, h6⟩ := hI
  simp only at h1 h2 h3 h4 h5 h6
  subst h1
  have b1 : (par.length + 1) * 8 ≤ 140737488355328 := by omega
  have b2 : (ret.length + 1) * 8 ≤ 140737488355328 := by omega
  have b3 : (cal.length + 1) * 8 ≤ 140737488355328 := by omega
  have b4 : (dep.length + 1) * 8 ≤ 140737488355328 := by omega
  have b5 : (prn.length + 1) * 8 ≤ 140737488355328 := by omega
  rw [l_impl_match_0]
  unfold mstep
  have s0 := ev_impl_size_int64 []
  simp at s0
  cases c1 : isRetB c
  · cases c2 : isCallB c
    · rcases List.eq_nil_or_concat cal with rfl | ⟨pre, p, rfl⟩
      · simp [lb_impl_match_0, hk, hw, hb, c1, c2, b1, b2, b4, b5, lastOr, s0]
      · rw [List.concat_eq_append] at *
        have hw2 := wrap_i64 (n := pre.length) (by simp at h3; omega)
        have b6 : pre.length ≤ 140737488355327 := by simp at h3; omega
        have s1 := ev_impl_size_int64 (pre ++ [p])
        simp at s1
        simp [lb_impl_match_0, hk, hw, hb, c1, c2, b1, b2, b4, b5, lastOr, hw2, b6, s1]
    · rcases List.eq_nil_or_concat cal with rfl | ⟨pre, p, rfl⟩
      · have s1 := ev_impl_size_int64 [(par.length : Int)]
        simp at s1
        simp [lb_impl_match_0, hk, hw, hb, c1, c2, b1, b2, b3, b4, b5, lastOr, s1]
      · rw [List.concat_eq_append] at *
        have hw2 := wrap_i64 (n := pre.length) (by simp at h3; omega)
        have b6 : pre.length ≤ 140737488355326 := by simp at h3; omega
        have b3 : (pre.length + 1 + 1) * 8 ≤ 140737488355328 := by simp at h3; omega
        have s1 := ev_impl_size_int64 (pre ++ [p] ++ [(par.length : Int)])
        simp at s1
        simp [lb_impl_match_0, hk, hw, hb, c1, c2, b1, b2, b3, b4, b5, lastOr, hw2, b6, s1, Nat.add_assoc, Int.add_assoc]
  · have c2 := retB_not_call c1
    rcases List.eq_nil_or_concat cal with rfl | ⟨pre, p, rfl⟩
    · simp [lb_impl_match_0, hk, hw, hb, c1, c2, b1, b2, b4, b5, lastOr, s0]
    · rw [List.concat_eq_append] at *
      have hp := h6 p (by simp)
      have hw2 := wrap_i64 (n := pre.length) (by simp at h3; omega)
      have hp2 : p < par.length := by omega
      have hp3 : p.toNat < par.length := by omega
      have b6 : pre.length ≤ 140737488355327 := by simp at h3; omega
      rcases List.eq_nil_or_concat pre with rfl | ⟨pr2, q, rfl⟩
      · simp [lb_impl_match_0, hk, hw, hb, c1, c2, b1, b2, b4, b5, lastOr, s0, hp.1, hp2, hp3]
      · have g1 : (pr2.concat q).getLast? = some q := by rw [List.concat_eq_append]; simp
        have g3 : 0 < (pr2.concat q).length := by simp
        generalize pr2.concat q = pre at g1 g3 h3 h6 hw2 b6 ⊢
        have g2 : (pre.map Enc.pv)[pre.length - 1]? = some (.val (.int .i64 q)) := by
          rw [List.getElem?_map, ← List.getLast?_eq_getElem?, g1]; rfl
        have hl : lastOr pre = q := by simp [lastOr, g1]
        have hw3 := wrap_i64 (n := (pre.length : Int) - 1) (by simp at h3; omega)
        have e1 : ((pre.length : Int) - 1).toNat = pre.length - 1 := by omega
        have e2 : (0 : Int) ≤ pre.length - 1 ∧ (pre.length : Int) - 1 < pre.length := by omega
        have e3 : (1 : Int) ≤ pre.length := by omega
        have b7 : pre.length ≤ 140737488355328 := by omega
        have s1 := ev_impl_size_int64 pre
        simp at s1
        simp (config := { maxSteps := 1000000 }) [lb_impl_match_0, hk, hw, hb, c1, c2, b1, b2, b4, b5, s1, hp.1, hp2, hp3, hw2, hw3, b6, g2, hl, e1, e2.1, e2.2, e3, g3, b7]

theorem mmatch_ok (cs : List Int) : MOk cs.length (mmatch cs) := by
  have key : ∀ (cs : List Int) (s : Mst) (k : Nat), MOk k s → MOk (k + cs.length) (cs.foldl mstep s) := by
    intro cs
    induction cs with
    | nil => intro s k h; exact h
    | cons c cs ih =>
      intro s k h
      have := ih _ _ (h.step c)
      have e : k + 1 + cs.length = k + (c :: cs).length := by simp; omega
      rw [e] at this; exact this
  have := key cs ⟨[], [], [], [0], []⟩ 0 ⟨rfl, by simp, by simp, rfl, rfl, by simp⟩
  simpa [mmatch] using this
@[simp] theorem ev_impl_match (w : ByteArray) (hz : w.size ≤ 1048576) : ev fns i_impl_match [str w] [] = some ((mmatch (wl w)).v, []) := by
  refine go_impl_match (by simp) ?_
  have lo := fun ks => loop_fold (F := fun k (m : Mst) => rE fns fa_impl_match 0 (.code lo_impl_match_0 :: .inBlock 0 :: ks) [(14, i64 (k : Nat)), (13, i64 w.size), (3, .ptr 2 0 0 0), (2, .ptr 0 0 0 0), (0, str w)]
        [.row 5 [.agg [.val (.slice none 0 0), .val (.slice none 0 0), .val (.slice none 0 0), .val (.slice none 0 0), .val (.slice none 0 0)]] 0, .row 1 (m.dep.map Enc.pv) 0,
          .row 5 [.agg [.own 3 0 0 m.par.length, .own 4 0 0 m.ret.length, .own 5 0 0 m.cal.length, .own 1 0 0 m.dep.length, .own 6 0 0 m.prn.length]] 0,
          .row 1 (m.par.map Enc.pv) 0, .row 1 (m.ret.map Enc.pv) 0, .row 1 (m.cal.map Enc.pv) 0, .row 1 (m.prn.map Enc.pv) 0]) (ls := wl w) (f := mstep) MOk
    (fun k m h hI => ⟨step_impl_match w hz k (by simpa using h) _ (bt_wl (by simpa using h)) m hI ks, hI.step _⟩)
    (s := ⟨[], [], [], [0], []⟩) ⟨rfl, by simp, by simp, rfl, rfl, by simp⟩
  have lo := fun ks => (lo ks).1
  simp at lo
  obtain ⟨h1, h2, h3, h4, h5, h6⟩ := mmatch_ok (wl w)
  rw [wl_length] at h1 h2 h3 h4 h5
  have b1 : (mmatch (wl w)).par.length ≤ 140737488355328 := by omega
  have b2 : (mmatch (wl w)).ret.length ≤ 140737488355328 := by omega
  have b3 : (mmatch (wl w)).cal.length ≤ 140737488355328 := by omega
  have b4 : (mmatch (wl w)).dep.length ≤ 140737488355328 := by omega
  have b5 : (mmatch (wl w)).prn.length ≤ 140737488355328 := by omega
  have e : List.foldl mstep ⟨[], [], [], [0], []⟩ (wl w) = mmatch (wl w) := rfl
  rw [e] at lo
  have lo2 := fun ks => (lo ks).trans (by rw [l_impl_match_0])
  simp [ac_impl_match, lo, putParts]
  rw [l_impl_match_0]
  simp [lb_impl_match_0, b1, b2, b3, b4, b5]
  trace_state
end Go.Proofs.Ytjfpmpbdbpgofaa
