/- The evaluator once more, its values forced at each step: for the kernel. -/
import Derived.Test.YtoliadfdklfmfaaAw23
set_option linter.unusedVariables false
set_option linter.unusedSimpArgs false
namespace Go.Proofs.Ytoliadfdklfmfaa
namespace Aw

section
variable {α : Type}
def fN (m : Nat) (k : Nat → α) : α := match m with
  | 0 => k 0
  | m + 1 => k (m + 1)
@[simp] theorem fN_eq (m : Nat) (k : Nat → α) : fN m k = k m := by cases m <;> rfl
def fI (n : Int) (k : Int → α) : α := match n with
  | .ofNat m => fN m fun m => k (.ofNat m)
  | .negSucc m => fN m fun m => k (.negSucc m)
@[simp] theorem fI_eq (m : Int) (k : Int → α) : fI m k = k m := by cases m <;> simp [fI]
def fB (b : Bool) (k : Bool → α) : α := match b with
  | true => k true
  | false => k false
@[simp] theorem fB_eq (b : Bool) (k : Bool → α) : fB b k = k b := by cases b <;> rfl
def fL {β : Type} (f : β → (β → α) → α) : List β → (List β → α) → α
  | [], k => k []
  | x :: xs, k => f x fun y => fL f xs fun ys => k (y :: ys)
theorem fL_eq {β : Type} {f : β → (β → α) → α} (hf : ∀ x k, f x k = k x) : ∀ (xs : List β) (k : List β → α), fL f xs k = k xs
  | [], k => rfl
  | x :: xs, k => by simp only [fL, hf, fL_eq hf xs]
def fU (b : UInt8) (k : UInt8 → α) : α := fN b.toNat fun n => k (UInt8.ofNat n)
@[simp] theorem fU_eq (b : UInt8) (k : UInt8 → α) : fU b k = k b := by simp [fU]
def fS (s : ByteArray) (k : ByteArray → α) : α := fL fU s.data.toList fun l => k ⟨⟨l⟩⟩
@[simp] theorem fS_eq (s : ByteArray) (k : ByteArray → α) : fS s k = k s := by
  simp only [fS]; rw [fL_eq fU_eq]
def fV (v : Value) (k : Value → α) : α := match v with
  | .int t n => fI n fun n => k (.int t n)
  | .bool b => fB b fun b => k (.bool b)
  | .string s => fS s fun s => k (.string s)
  | v => k v
@[simp] theorem fV_eq (v : Value) (k : Value → α) : fV v k = k v := by cases v <;> simp [fV]
mutual
def fP : PV → (PV → α) → α
  | .any, k => k .any
  | .val v, k => fV v fun v => k (.val v)
  | .agg ps, k => fPs ps fun ps => k (.agg ps)
  | .tup ps, k => fPs ps fun ps => k (.tup ps)
  | .list sz xs ex, k => fPs xs fun xs => fB ex fun ex => k (.list sz xs ex)
  | .fptr cs off, k => fPs cs fun cs => fN off fun off => k (.fptr cs off)
  | .own a b c d, k => fN a fun a => fN b fun b => fN c fun c => fN d fun d => k (.own a b c d)
  | .ptr a b c d, k => fN a fun a => fN b fun b => fN c fun c => fN d fun d => k (.ptr a b c d)
  | .fn f ps, k => fPs ps fun ps => k (.fn f ps)
  | .tl s ps, k => fPs ps fun ps => k (.tl s ps)
def fPs : List PV → (List PV → α) → α
  | [], k => k []
  | p :: ps, k => fP p fun p => fPs ps fun ps => k (p :: ps)
end
mutual
@[simp] theorem fP_eq : ∀ (p : PV) (k : PV → α), fP p k = k p
  | .any, k => by simp [fP]
  | .val v, k => by simp [fP]
  | .agg ps, k => by simp [fP, fPs_eq ps]
  | .tup ps, k => by simp [fP, fPs_eq ps]
  | .list sz xs ex, k => by simp [fP, fPs_eq xs]
  | .fptr cs off, k => by simp [fP, fPs_eq cs]
  | .own a b c d, k => by simp [fP]
  | .ptr a b c d, k => by simp [fP]
  | .fn f ps, k => by simp [fP, fPs_eq ps]
  | .tl s ps, k => by simp [fP, fPs_eq ps]
@[simp] theorem fPs_eq : ∀ (ps : List PV) (k : List PV → α), fPs ps k = k ps
  | [], k => by simp [fPs]
  | p :: ps, k => by simp [fPs, fP_eq p, fPs_eq ps]
end
def fO : AObj → (AObj → α) → α
  | .row sz es ver, k => fPs es fun es => fN ver fun ver => k (.row sz es ver)
@[simp] theorem fO_eq (o : AObj) (k : AObj → α) : fO o k = k o := by cases o; simp [fO]
def fOs (σ : List AObj) (k : List AObj → α) : α := fL fO σ k
@[simp] theorem fOs_eq (σ : List AObj) (k : List AObj → α) : fOs σ k = k σ := fL_eq fO_eq σ k
def fE (e : Nat × PV) (k : Nat × PV → α) : α := match e with | (t, p) => k (t, p)
def fFr (l : Fr) (k : Fr → α) : α := fL fE l k
@[simp] theorem fFr_eq (l : Fr) (k : Fr → α) : fFr l k = k l := fL_eq (f := fE) (fun e k => by cases e; rfl) l k
end

/-- The same as runN. -/
noncomputable def runF (rt : RT) (cf : CF) (N n0 : Nat) : Nat → List KI → Fr → List AObj → Option (Fr × List AObj)
  | 0, _, _, _ => none
  | _ + 1, [], l, σ => some (l, σ)
  | n + 1, .inBlock _ :: ks, l, σ => runF rt cf N n0 n ks l σ
  | n + 1, .ins [] :: ks, l, σ => runF rt cf N n0 n ks l σ
  | n + 1, .ins (x :: xs) :: ks, l, σ => match guardA (dn N l) x.g with
    | some true => match x.s with
      | .op i => match ai (dn N l) σ i with
        | some r => fP r.1 fun p => fFr (putD l x.dst p) fun l => match i.eff with
          | true => fOs r.2 fun σ => runF rt cf N n0 n (.ins xs :: ks) l σ
          | false => runF rt cf N n0 n (.ins xs :: ks) l r.2
        | none => match ai2 (dn N l) σ i with
          | some q => agree (runF rt cf N n0 n (.ins xs :: ks) (putD l x.dst q.1.1) q.1.2) (runF rt cf N n0 n (.ins xs :: ks) (putD l x.dst q.2.1) q.2.2)
          | none => none
      | .call f args z => fP (aev (dn N l) f) fun f => fPs (args.map (aev (dn N l))) fun args => match cz z cf f args σ with
        | some r => fP r.1 fun p => fFr (putD l x.dst p) fun l => fOs r.2 fun σ => runF rt cf N n0 n (.ins xs :: ks) l σ
        | none => none
    | some false => fFr (kilD l x.dst) fun l => runF rt cf N n0 n (.ins xs :: ks) l σ
    | none => none
  | n + 1, .dins [] _ :: ks, l, σ => runF rt cf N n0 n ks l σ
  | n + 1, .dins (d :: ds) h :: ks, l, σ => match guardA (dn N l) d.x.g with
    | some true => match d.x.s with
      | .op i => match ai (dn N l) σ i with
        | some r => fP r.1 fun p => fOs r.2 fun σ => match !i.eff || rt (dn N l) σ h d.rc with
          | true => fFr (putD l d.x.dst p) fun l => runF rt cf N n0 n (.dins ds (d :: h) :: ks) l σ
          | false => none
        | none => none
      | .call f args z => fP (aev (dn N l) f) fun f => fPs (args.map (aev (dn N l))) fun args => match cz z cf f args σ with
        | some r => fP r.1 fun p => fOs r.2 fun σ => match rt (dn N l) σ h d.rc with
          | true => fFr (putD l d.x.dst p) fun l => runF rt cf N n0 n (.dins ds (d :: h) :: ks) l σ
          | false => none
        | none => none
    | some false => fFr (kilD l d.x.dst) fun l => runF rt cf N n0 n (.dins ds (d :: h) :: ks) l σ
    | none => none
  | n + 1, .code .skip :: ks, l, σ => runF rt cf N n0 n ks l σ
  | n + 1, .code (.seq a b) :: ks, l, σ => runF rt cf N n0 n (.code a :: .code b :: ks) l σ
  | n + 1, .code (.cond c t e) :: ks, l, σ => match aev (dn N l) c with
    | .val (.bool b) => match b with
      | true => runF rt cf N n0 n (.code t :: ks) l σ
      | false => runF rt cf N n0 n (.code e :: ks) l σ
    | _ => none
  | n + 1, .code (.block id a) :: ks, l, σ => runF rt cf N n0 n (.code a :: .inBlock id :: ks) l σ
  | n + 1, .code (.loop a) :: ks, l, σ => runF rt cf N n0 n (.code a :: .code (.loop a) :: ks) l σ
  | n + 1, .code (.exit id) :: ks, l, σ => match exitK id ks with
    | some ks' => runF rt cf N n0 n ks' l σ
    | none => none
  | n + 1, .code .ret :: ks, l, σ => some (l, σ)
  | n + 1, .code (.reg xs) :: ks, l, σ => runF rt cf N n0 n (.ins xs :: ks) l σ
  | n + 1, .code (.draw ds _) :: ks, l, σ => runF rt cf N n0 n (.dins ds [] :: ks) l σ
  | n + 1, .gh g :: ks, l, σ => match evG n0 l σ g with
    | some r => fFr r.1 fun l => fOs r.2 fun σ => runF rt cf N n0 n ks l σ
    | none => none
  | n + 1, .code (.post a g) :: ks, l, σ => runF rt cf N n0 n (.code a :: .gh g :: ks) l σ
  | n + 1, .code (.ghost g a) :: ks, l, σ => match evG n0 l σ g with
    | some r => fFr r.1 fun l => fOs r.2 fun σ => runF rt cf N n0 n (.code a :: ks) l σ
    | none => none

theorem runF_eq (rt : RT) (cf : CF) (N n0 : Nat) : ∀ (n : Nat) (ks : List KI) (l : Fr) (σ : List AObj), runF rt cf N n0 n ks l σ = runN rt cf N n0 n ks l σ := by
  intro n
  induction n with
  | zero => intro ks l σ; simp [runF, runN]
  | succ n ih =>
    intro ks l σ
    match ks with
    | [] => simp [runF, runN]
    | .inBlock _ :: ks => simp [runF, runN, ih]
    | .gh g :: ks => simp only [runF, runN, ih, fOs_eq, fFr_eq]; cases evG n0 l σ g <;> rfl
    | .ins [] :: ks => simp [runF, runN, ih]
    | .ins (x :: xs) :: ks =>
      simp only [runF, runN, fP_eq, fPs_eq, fOs_eq, fFr_eq, ih]
      cases hg : guardA (dn N l) x.g with
      | none => rfl
      | some b =>
        cases b with
        | false => rfl
        | true =>
          cases hs : x.s with
          | op i =>
            simp only
            cases ha : ai (dn N l) σ i with
            | none => simp only; cases ai2 (dn N l) σ i <;> rfl
            | some r => simp only; cases i.eff <;> rfl
          | call f args z => rfl
    | .dins [] _ :: ks => simp [runF, runN, ih]
    | .dins (d :: ds) h :: ks =>
      simp only [runF, runN, fP_eq, fPs_eq, fOs_eq, fFr_eq, ih]
      cases hg : guardA (dn N l) d.x.g with
      | none => rfl
      | some b =>
        cases b with
        | false => rfl
        | true =>
          cases hs : d.x.s with
          | op i =>
            simp only
            cases ha : ai (dn N l) σ i with
            | none => rfl
            | some r => simp only; cases hh : (!i.eff || rt (dn N l) r.2 h d.rc) <;> simp
          | call f args z =>
            simp only
            cases ha : cz z cf (aev (dn N l) f) (args.map (aev (dn N l))) σ with
            | none => rfl
            | some r => simp only; cases hh : rt (dn N l) r.2 h d.rc <;> simp
    | .code c :: ks =>
      cases c with
      | cond c t e =>
        simp only [runF, runN, ih]
        cases aev (dn N l) c with
        | val v =>
          cases v with
          | bool b => cases b <;> simp
          | _ => rfl
        | _ => rfl
      | exit id => simp only [runF, runN, ih]; cases exitK id ks <;> rfl
      | ghost g a => simp only [runF, runN, ih, fOs_eq, fFr_eq]; cases evG n0 l σ g <;> rfl
      | _ => simp [runF, runN, ih]

noncomputable def evF (fns : Fns) (rt : RT) : Nat → FuncId → List PV → List AObj → Option (PV × List AObj)
  | 0, _, _, _ => none
  | n + 1, f, args, σ => match fns f with
    | some a => match a.sp with
     | some g => g args σ
     | none => match decide (args.length ≤ a.nt) with
      | true => match runF rt (callV fns (evF fns rt n)) a.nt σ.length n [.code a.ac] (frA 0 args) σ with
        | some r => fin a σ.length r
        | none => none
      | false => none
    | none => none
theorem evF_eq (fns : Fns) (rt : RT) : ∀ (n : Nat), evF fns rt n = evN fns rt n := by
  intro n
  induction n with
  | zero => funext f args σ; simp [evF, evN]
  | succ n ih =>
    funext f args σ
    simp only [evF, evN, ih, runF_eq]
    cases fns f with
    | none => rfl
    | some a =>
      simp only
      cases a.sp with
      | some g => rfl
      | none =>
      simp only
      cases hd : decide (args.length ≤ a.nt) with
      | true =>
        simp only [decide_eq_true_eq] at hd
        rw [if_pos hd]
        simp only
        cases runN rt (callV fns (evN fns rt n)) a.nt σ.length n [.code a.ac] (frA 0 args) σ <;> rfl
      | false =>
        simp only [decide_eq_false_iff_not] at hd
        rw [if_neg hd]

end Aw
end Go.Proofs.Ytoliadfdklfmfaa
