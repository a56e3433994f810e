/- Typed data as abstract values; what the evaluator asks of them. -/
import Derived.Test.YtoliadfdklfmfaaAw28
set_option linter.unusedVariables false
set_option linter.unusedSimpArgs false
namespace Go.Proofs.Ytoliadfdklfmfaa
namespace Aw

/-- One cell without a reference to an object. -/
def PV.flat1 : PV → Bool
  | .val v => v.oneCell'
  | .list _ _ _ => true
  | .fptr _ _ => true
  | _ => false
/-- A value, or a struct of such cells. -/
def PV.flat : PV → Bool
  | .agg ps => ps.all PV.flat1
  | p => p.flat1

theorem PV.flat1_bel {p : PV} (h : p.flat1 = true) (n : Nat) : p.bel n = true := by cases p <;> simp_all [PV.flat1, PV.bel]
theorem PV.flat1_one {p : PV} (h : p.flat1 = true) : p.one = true := by cases p <;> simp_all [PV.flat1, PV.one]
theorem PV.flat1_cells {p : PV} (h : p.flat1 = true) : p.cells = [p] := by cases p <;> simp_all [PV.flat1, PV.cells]
theorem PV.flat1_dfr {p : PV} (h : p.flat1 = true) (σ : List AObj) (d : Nat) : dfr σ (d + 1) p = some p := by cases p <;> simp_all [PV.flat1, dfr]
theorem PV.flat_bel {p : PV} (h : p.flat = true) (n : Nat) : p.bel n = true := by
  cases p with
  | agg ps =>
    simp only [PV.flat, List.all_eq_true] at h
    simp only [PV.bel]
    exact PV.bels_iff.2 fun q hq => PV.flat1_bel (h q hq) n
  | _ => exact PV.flat1_bel (by simpa [PV.flat] using h) n
theorem PV.flat_okc {p : PV} (h : p.flat = true) : p.okc = true := by
  cases p with
  | agg ps =>
    simp only [PV.flat, List.all_eq_true] at h
    simp only [PV.okc, List.all_eq_true]
    exact fun q hq => PV.flat1_one (h q hq)
  | _ => exact PV.flat1_one (by simpa [PV.flat] using h)
theorem mapO_id {f : PV → Option PV} : ∀ {ps : List PV}, (∀ p ∈ ps, f p = some p) → mapO f ps = some ps
  | [], _ => rfl
  | p :: ps, h => by simp [mapO, h p (by simp), mapO_id fun q hq => h q (List.mem_cons_of_mem _ hq)]
theorem PV.flat_dfr {p : PV} (h : p.flat = true) (σ : List AObj) (d : Nat) : dfr σ (d + 2) p = some p := by
  cases p with
  | agg ps =>
    simp only [PV.flat, List.all_eq_true] at h
    simp only [dfr, mapO_id fun q hq => PV.flat1_dfr (h q hq) σ d, Option.map_some]
  | _ => exact PV.flat1_dfr (by simpa [PV.flat] using h) σ (d + 1)
theorem PV.flat_sh {p : PV} (h : p.flat = true) (k : Nat) : p.sh k = p := PV.sh_bel0 k (PV.flat_bel h 0)

/-- Data that are told by flat values. -/
class Enc (α : Type) where
  pv : α → PV
  sz : Nat
  flat : ∀ a, (pv a).flat = true
  cells : ∀ a, (pv a).cells.length = sz

attribute [simp] Enc.flat Enc.cells
instance : Enc Int := ⟨fun n => .val (.int .i64 n), 1, fun _ => rfl, fun _ => rfl⟩
instance : Enc ByteArray := ⟨fun s => .val (.string s), 1, fun _ => rfl, fun _ => rfl⟩
instance : Enc Bool := ⟨fun b => .val (.bool b), 1, fun _ => rfl, fun _ => rfl⟩
instance : Enc UInt8 := ⟨fun b => .val (.int .u8 b.toNat), 1, fun _ => rfl, fun _ => rfl⟩
/-- A list that nobody writes again. -/
@[simp] abbrev lst {α : Type} [Enc α] (k : Nat) (xs : List α) : PV := .list k (xs.map Enc.pv) false
instance {α : Type} [Enc α] : Enc (List α) := ⟨fun xs => .list (Enc.sz α) (xs.map Enc.pv) false, 1, fun _ => rfl, fun _ => rfl⟩
@[simp] abbrev i64 (n : Int) : PV := .val (.int .i64 n)
@[simp] abbrev u8 (n : Int) : PV := .val (.int .u8 n)
@[simp] abbrev str (s : ByteArray) : PV := .val (.string s)
@[simp] abbrev bol (b : Bool) : PV := .val (.bool b)

section
variable {α : Type} [Enc α]
@[simp] theorem pv_int (n : Int) : Enc.pv n = .val (.int .i64 n) := rfl
@[simp] theorem pv_str (s : ByteArray) : Enc.pv s = .val (.string s) := rfl
@[simp] theorem pv_bool (b : Bool) : Enc.pv b = .val (.bool b) := rfl
@[simp] theorem pv_u8 (b : UInt8) : Enc.pv b = .val (.int .u8 b.toNat) := rfl
@[simp] theorem pv_list (xs : List α) : Enc.pv xs = .list (Enc.sz α) (xs.map Enc.pv) false := rfl
@[simp] theorem sz_int : Enc.sz Int = 1 := rfl
@[simp] theorem sz_str : Enc.sz ByteArray = 1 := rfl
@[simp] theorem sz_bool : Enc.sz Bool = 1 := rfl
@[simp] theorem sz_u8 : Enc.sz UInt8 = 1 := rfl
@[simp] theorem sz_list : Enc.sz (List α) = 1 := rfl

@[simp] theorem bels_map (xs : List α) (n : Nat) : PV.bels n (xs.map Enc.pv) = true :=
  PV.bels_iff.2 fun p hp => by obtain ⟨x, _, rfl⟩ := List.mem_map.1 hp; exact PV.flat_bel (Enc.flat x) n
@[simp] theorem bel_pv (x : α) (n : Nat) : (Enc.pv x).bel n = true := PV.flat_bel (Enc.flat x) n
@[simp] theorem bels_append (xs ys : List PV) (n : Nat) : PV.bels n (xs ++ ys) = (PV.bels n xs && PV.bels n ys) := by
  induction xs with
  | nil => simp [PV.bels]
  | cons x xs ih => simp [PV.bels, ih, Bool.and_assoc]
@[simp] theorem okc_map (xs : List α) : (xs.map Enc.pv).all (fun y => y.okc && decide (y.cells.length = Enc.sz α)) = true := by
  simp only [List.all_eq_true, List.mem_map]
  rintro p ⟨x, _, rfl⟩
  simp [PV.flat_okc (Enc.flat x)]
@[simp] theorem okc_pv (x : α) : (Enc.pv x).okc = true := PV.flat_okc (Enc.flat x)
theorem mapO_append {β γ : Type} (f : β → Option γ) (xs ys : List β) {us vs : List γ} (h : mapO f xs = some us) (k : mapO f ys = some vs) : mapO f (xs ++ ys) = some (us ++ vs) := by
  induction xs generalizing us with
  | nil => simp [mapO] at h; subst h; simpa using k
  | cons x xs ih =>
    simp only [mapO] at h
    split at h
    · rename_i y ys' h1 h2
      injection h with h; subst h
      simp [mapO, h1, ih h2]
    · cases h
@[simp] theorem dfr_map (xs : List α) (σ : List AObj) (d : Nat) : mapO (dfr σ (d + 2)) (xs.map Enc.pv) = some (xs.map Enc.pv) :=
  mapO_id fun p hp => by obtain ⟨x, _, rfl⟩ := List.mem_map.1 hp; exact PV.flat_dfr (Enc.flat x) σ d
@[simp] theorem dfr_map8 (xs : List α) (σ : List AObj) : mapO (dfr σ 8) (xs.map Enc.pv) = some (xs.map Enc.pv) := dfr_map xs σ 6
@[simp] theorem dfr_map7 (xs : List α) (σ : List AObj) : mapO (dfr σ 7) (xs.map Enc.pv) = some (xs.map Enc.pv) := dfr_map xs σ 5
@[simp] theorem nvRow_map (xs : List α) (σ : List AObj) (n : Nat) : nvRow σ n (xs.map Enc.pv) = xs.map Enc.pv := by simp [nvRow]
@[simp] theorem nvRow_bel0 {es : List PV} (h : PV.bels 0 es = true) (σ : List AObj) (n : Nat) : nvRow σ n es = es := by simp [nvRow, h]
@[simp] theorem bels_replicate {v : PV} {n : Nat} (h : v.bel n = true) : ∀ k : Nat, PV.bels n (List.replicate k v) = true
  | 0 => rfl
  | k + 1 => by simp [List.replicate_succ, PV.bels, h, bels_replicate h k]
@[simp] theorem bels_replicate_val (v : Value) (n k : Nat) : PV.bels n (List.replicate k (.val v)) = true := bels_replicate (by simp [PV.bel]) k
@[simp] theorem shs_pvs (xs : List α) (k : Nat) : PV.shs k (xs.map Enc.pv) = xs.map Enc.pv := PV.shs_bel0 k (bels_map xs 0)
end

/-! ### Calls -/
theorem callV_func {fns : Fns} {f : FuncId} {args : List PV} {σ : List AObj} : callV fns (ev fns) (.val (.func (.func f) #[] #[])) args σ = callM fns (ev fns) f args σ := by simp [callV]
theorem callV_fn {fns : Fns} {f : FuncId} {caps args : List PV} {σ : List AObj} : callV fns (ev fns) (.fn f caps) args σ = callM fns (ev fns) f (args ++ caps) σ := rfl
theorem behind_pure {σ : List AObj} {v : PV} (h : v.bel 0 = true) : behind σ (v, []) = (v, σ) := by simp [behind, PV.sh_bel0 _ h]

/-- A call of a function that does not turn what its arguments refer to. -/
noncomputable def callN (fns : Fns) (f : FuncId) (args : List PV) (σ : List AObj) : Option (PV × List AObj) :=
  if PV.bels 0 args = true then (ev fns f args []).map (behind σ)
  else match mapO (dfr σ 9) args with
    | some args' => match ev fns f args' [] with
      | some r => if r.1.nl && r.2.all AObj.nl then some (behind σ r) else none
      | none => none
    | none => none
theorem callM_np {fns : Fns} {f : FuncId} {a : FnA} {args : List PV} {σ : List AObj} (ha : fns f = some a) (hp : a.plain = false) (ht : a.ats = []) : callM fns (ev fns) f args σ = callN fns f args σ := by
  unfold callM callN; rw [ha]; simp only [hp, ht, PV.tys, Bool.false_eq_true, if_false]; rfl
/-- A call of a function whose arguments are told by shapes. -/
noncomputable def callT (fns : Fns) (ss : List Sh) (f : FuncId) (args : List PV) (σ : List AObj) : Option (PV × List AObj) :=
  if PV.bels 0 args = true then (ev fns f (PV.tys ss args) []).map (behind σ)
  else match mapO (dfr σ 9) args with
    | some args' => match ev fns f (PV.tys ss args') [] with
      | some r => if r.1.nl && r.2.all AObj.nl then some (behind σ r) else none
      | none => none
    | none => none
theorem callM_ty {fns : Fns} {f : FuncId} {a : FnA} {args : List PV} {σ : List AObj} (ha : fns f = some a) (hp : a.plain = false) : callM fns (ev fns) f args σ = callT fns a.ats f args σ := by
  unfold callM callT; rw [ha]; simp only [hp, Bool.false_eq_true, if_false]; rfl

/-- A call of a function that returns a value and leaves nothing. -/
theorem call_pure {fns : Fns} {f : FuncId} {a : FnA} {args : List PV} {σ : List AObj} {v : PV} (ha : fns f = some a) (hp : a.plain = false) (ht : a.ats = []) (hb : PV.bels 0 args = true) (hv : v.bel 0 = true)
    (h : ev fns f args [] = some (v, [])) : callM fns (ev fns) f args σ = some (v, σ) := by
  simp [callM, ha, hp, ht, PV.tys, hb, h, behind_pure hv]
/-- The same, with what the caller owns lent. -/
theorem call_lent {fns : Fns} {f : FuncId} {a : FnA} {args args' : List PV} {σ : List AObj} {v : PV} (ha : fns f = some a) (hp : a.plain = false) (ht : a.ats = []) (hb : PV.bels 0 args = false) (hd : mapO (dfr σ 9) args = some args') (hv : v.bel 0 = true) (hn : v.nl = true)
    (h : ev fns f args' [] = some (v, [])) : callM fns (ev fns) f args σ = some (v, σ) := by
  simp [callM, ha, hp, ht, PV.tys, hb, hd, h, hn, behind_pure hv]

end Aw
end Go.Proofs.Ytoliadfdklfmfaa
