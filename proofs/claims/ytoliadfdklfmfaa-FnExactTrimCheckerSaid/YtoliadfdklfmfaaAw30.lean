/- Symbolic runs: a function's code with its end; the equations, for simp. -/
import Derived.Test.YtoliadfdklfmfaaAw29
set_option linter.unusedVariables false
set_option linter.unusedSimpArgs false
namespace Go.Proofs.Ytoliadfdklfmfaa
namespace Aw

/-- What is left of a function's code, to its end. -/
noncomputable def rE (fns : Fns) (a : FnA) (n0 : Nat) (ks : List KI) (l : Fr) (σ : List AObj) : Option (PV × List AObj) := (run fns a.nt n0 ks l σ).bind (fin a n0)

/-- What is left behind an append that ends in one of two ways. -/
noncomputable def rE2 (fns : Fns) (a : FnA) (n0 : Nat) (i : AI) (dst : Option Nat) (ks : List KI) (l : Fr) (σ : List AObj) : Option (PV × List AObj) :=
  match ai2 (dn a.nt l) σ i with
  | some q => (agree (run fns a.nt n0 ks (putD l dst q.1.1) q.1.2) (run fns a.nt n0 ks (putD l dst q.2.1) q.2.2)).bind (fin a n0)
  | none => none
theorem ev_go {fns : Fns} {f : FuncId} {a : FnA} {args : List PV} {σ : List AObj} {r : PV × List AObj} (ha : fns f = some a) (hs : a.sp = none) (hl : args.length ≤ a.nt)
    (h : rE fns a σ.length [.code a.ac] (frA 0 args) σ = some r) : ev fns f args σ = some r := ev_run ha hs hl h

section
variable {fns : Fns} {a : FnA} {n0 : Nat} {ks : List KI} {l : Fr} {σ : List AObj}
/-- The value in a slot. -/
theorem aev_tmp {N : Nat} {t : Nat} (h : t < N) : aev (dn N l) (.tmp t) = look l t := aev_dn h

@[simp] theorem rE_nil : rE fns a n0 [] l σ = fin a n0 (l, σ) := by simp [rE, run_nil]
@[simp] theorem rE_inBlock {id : Nat} : rE fns a n0 (.inBlock id :: ks) l σ = rE fns a n0 ks l σ := by simp only [rE, run_inBlock]
@[simp] theorem rE_ins_nil : rE fns a n0 (.ins [] :: ks) l σ = rE fns a n0 ks l σ := by simp only [rE, run_ins_nil]
@[simp] theorem rE_dins_nil {h : List DIn} : rE fns a n0 (.dins [] h :: ks) l σ = rE fns a n0 ks l σ := by simp only [rE, run_dins_nil]
@[simp] theorem rE_skip : rE fns a n0 (.code .skip :: ks) l σ = rE fns a n0 ks l σ := by simp only [rE, run_skip]
@[simp] theorem rE_seq {x y : AC} : rE fns a n0 (.code (.seq x y) :: ks) l σ = rE fns a n0 (.code x :: .code y :: ks) l σ := by simp only [rE, run_seq]
@[simp] theorem rE_block {id : Nat} {x : AC} : rE fns a n0 (.code (.block id x) :: ks) l σ = rE fns a n0 (.code x :: .inBlock id :: ks) l σ := by simp only [rE, run_block]
theorem rE_loop {x : AC} : rE fns a n0 (.code (.loop x) :: ks) l σ = rE fns a n0 (.code x :: .code (.loop x) :: ks) l σ := by simp only [rE]; rw [run_loop]
@[simp] theorem rE_reg {xs : List AIn} : rE fns a n0 (.code (.reg xs) :: ks) l σ = rE fns a n0 (.ins xs :: ks) l σ := by simp only [rE, run_reg]
@[simp] theorem rE_draw {ds : List DIn} {ms : List Nat} : rE fns a n0 (.code (.draw ds ms) :: ks) l σ = rE fns a n0 (.dins ds [] :: ks) l σ := by simp only [rE, run_draw]
@[simp] theorem rE_ret : rE fns a n0 (.code .ret :: ks) l σ = fin a n0 (l, σ) := by simp [rE, run_ret]
@[simp] theorem rE_exit {id : Nat} : rE fns a n0 (.code (.exit id) :: ks) l σ = match exitK id ks with
    | some ks' => rE fns a n0 ks' l σ
    | none => none := by
  simp only [rE, run_exit]; cases exitK id ks <;> rfl
@[simp] theorem rE_ghost {g : Gh} {x : AC} : rE fns a n0 (.code (.ghost g x) :: ks) l σ = match evG n0 l σ g with
    | some r => rE fns a n0 (.code x :: ks) r.1 r.2
    | none => none := by
  simp only [rE, run_ghost]; cases evG n0 l σ g <;> rfl
@[simp] theorem rE_post {g : Gh} {x : AC} : rE fns a n0 (.code (.post x g) :: ks) l σ = rE fns a n0 (.code x :: .gh g :: ks) l σ := by simp only [rE, run_post]
@[simp] theorem rE_gh {g : Gh} : rE fns a n0 (.gh g :: ks) l σ = match evG n0 l σ g with
    | some r => rE fns a n0 ks r.1 r.2
    | none => none := by
  simp only [rE, run_gh]; cases evG n0 l σ g <;> rfl
@[simp] theorem rE_cond {c : Operand} {t e : AC} : rE fns a n0 (.code (.cond c t e) :: ks) l σ = match aev (dn a.nt l) c with
    | .val (.bool b) => if b = true then rE fns a n0 (.code t :: ks) l σ else rE fns a n0 (.code e :: ks) l σ
    | _ => none := by
  simp only [rE, run_cond]
  generalize aev (dn a.nt l) c = p
  cases p with
  | val v =>
    cases v with
    | bool b => cases b <;> rfl
    | _ => rfl
  | _ => rfl
@[simp] theorem rE_ins {x : AIn} {xs : List AIn} : rE fns a n0 (.ins (x :: xs) :: ks) l σ = match guardA (dn a.nt l) x.g with
    | some true => match x.s with
      | .op i => match ai (dn a.nt l) σ i with
        | some r => rE fns a n0 (.ins xs :: ks) (putD l x.dst r.1) r.2
        | none => rE2 fns a n0 i x.dst (.ins xs :: ks) l σ
      | .call f args z => match cz z (callV fns (ev fns)) (aev (dn a.nt l) f) (args.map (aev (dn a.nt l))) σ with
        | some r => rE fns a n0 (.ins xs :: ks) (putD l x.dst r.1) r.2
        | none => none
    | some false => rE fns a n0 (.ins xs :: ks) (kilD l x.dst) σ
    | none => none := by
  simp only [rE, run_ins]
  cases guardA (dn a.nt l) x.g with
  | none => rfl
  | some b =>
    cases b with
    | false => rfl
    | true =>
      cases x.s with
      | op i =>
        simp only
        cases ai (dn a.nt l) σ i with
        | some r => rfl
        | none => simp only [rE2]; cases ai2 (dn a.nt l) σ i <;> rfl
      | call f args z => simp only; cases cz z (callV fns (ev fns)) (aev (dn a.nt l) f) (args.map (aev (dn a.nt l))) σ <;> rfl
open Classical in
@[simp] theorem rE_dins {d : DIn} {ds h : List DIn} : rE fns a n0 (.dins (d :: ds) h :: ks) l σ = match guardA (dn a.nt l) d.x.g with
    | some true => match d.x.s with
      | .op i => match ai (dn a.nt l) σ i with
        | some r => if i.eff = true → rcs (dn a.nt l) r.2 h d.rc then rE fns a n0 (.dins ds (d :: h) :: ks) (putD l d.x.dst r.1) r.2 else none
        | none => none
      | .call f args z => match cz z (callV fns (ev fns)) (aev (dn a.nt l) f) (args.map (aev (dn a.nt l))) σ with
        | some r => if rcs (dn a.nt l) r.2 h d.rc then rE fns a n0 (.dins ds (d :: h) :: ks) (putD l d.x.dst r.1) r.2 else none
        | none => none
    | some false => rE fns a n0 (.dins ds (d :: h) :: ks) (kilD l d.x.dst) σ
    | none => none := by
  simp only [rE, run_dins]
  cases guardA (dn a.nt l) d.x.g with
  | none => rfl
  | some b =>
    cases b with
    | false => rfl
    | true =>
      cases d.x.s with
      | op i =>
        simp only
        cases ai (dn a.nt l) σ i with
        | none => rfl
        | some r => simp only; split <;> rfl
      | call f args z =>
        simp only
        cases cz z (callV fns (ev fns)) (aev (dn a.nt l) f) (args.map (aev (dn a.nt l))) σ with
        | none => rfl
        | some r => simp only; split <;> rfl
end

attribute [simp] callV_func callV_fn
attribute [simp] exitK guardA ai aev dn_get look PV.okc PV.one Value.oneCell' putD put kilD undef kils kil evG loadA cellsAt PV.cells PV.bel PV.bels binV intBin lenS lenA capA AI.eff frA callN callT PV.tys behind PV.sh PV.shs
  nvFr emptyP trObjs trObj rowsExt frExt PV.ext PV.exts nvObjs nvObj PV.nv PV.nvs gc gcAt gcOk frBelA objsBel setCells fin fin0 aress ares1 resOf dfr mapO pvOf PV.nl PV.nls AObj.nl AObj.sh elemsA moreA bnd eqV eqVs rcs rc1 strBin nilA setAll putParts bldA appV verT okVer BK.eff nvV

attribute [simp] List.take_of_length_le
@[simp] theorem cast_eq_iff (a b : Nat) : ((a : Int) = b) = (a = b) := by apply propext; omega
/-- The place behind a beginning. -/
theorem mid {α : Type} {ls pre suf : List α} {x : α} (h : ls = pre ++ x :: suf) : pre.length < ls.length ∧ ls[pre.length]? = some x ∧ ∀ hh : pre.length < ls.length, ls[pre.length]'hh = x := by
  subst h; simp

/-- Numbers that fit stay as they are. -/
theorem wrap_i64 {n : Int} (h : -9223372036854775808 ≤ n ∧ n < 9223372036854775808) : IntKind.i64.wrap n = n := by
  have e : IntKind.i64.wrap n = if n % 18446744073709551616 ≥ 9223372036854775808 then n % 18446744073709551616 - 18446744073709551616 else n % 18446744073709551616 := by
    simp [IntKind.wrap, IntKind.signed, IntKind.bits]
  rw [e]; split <;> omega
theorem wrap_u8 {n : Int} (h : 0 ≤ n ∧ n < 256) : IntKind.u8.wrap n = n := by
  have e : IntKind.u8.wrap n = n % 256 := by simp [IntKind.wrap, IntKind.signed, IntKind.bits]
  rw [e]; omega

end Aw
end Go.Proofs.Ytoliadfdklfmfaa
