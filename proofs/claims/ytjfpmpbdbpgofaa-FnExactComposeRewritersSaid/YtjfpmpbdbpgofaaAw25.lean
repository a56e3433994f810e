/- From an exact contract to a call in a world that stays as it was below. -/
import Derived.Test.YtjfpmpbdbpgofaaAw22
import Derived.Test.YtjfpmpbdbpgofaaAw31
set_option linter.unusedVariables false
set_option linter.unusedSimpArgs false
namespace Go.Proofs.Ytjfpmpbdbpgofaa
namespace Aw

structure FnA where
  ac : AC
  rs : List ARes
  nt : Nat
  plain : Bool := false
  fz : Bool := false
  ats : List Sh := []
  rsh : Sh := .any
  sp : Option (List PV → List AObj → Option (PV × List AObj)) := none
abbrev Fns := FuncId → Option FnA

/-- What is returned, and the objects that stay. -/
def fin0 (a : FnA) (n0 : Nat) (r : Fr × List AObj) : Option (PV × List AObj) :=
  match aress (dn a.nt r.1) r.2 a.rs with
  | some ps =>
    if PV.bels n0 ps && objsBel n0 (r.2.take n0) then some (resOf ps, r.2.take n0)
    else if decide (n0 ≤ r.2.length) && PV.bels r.2.length ps && objsBel r.2.length r.2 then some (resOf ps, r.2) else none
  | none => none
/-- The same; a function that freezes (fz) returns what nobody will write again, and leaves no objects. -/
def fin (a : FnA) (n0 : Nat) (r : Fr × List AObj) : Option (PV × List AObj) :=
  match fin0 a n0 r with
  | some q => match a.fz with
    | true => if n0 = 0 then (dfr q.2 9 q.1).map fun p => (PV.ty a.rsh p, []) else none
    | false => some q
  | none => none

def behind (σ : List AObj) (r : PV × List AObj) : PV × List AObj := (r.1.sh σ.length, σ ++ r.2.map (AObj.sh σ.length))

/-- A call of a function of the table. -/
def callM (fns : Fns) (ef : FuncId → List PV → List AObj → Option (PV × List AObj)) (f : FuncId) (args : List PV) (σ : List AObj) : Option (PV × List AObj) :=
  match fns f with
  | some a =>
    if a.plain then ef f args σ
    else if PV.bels 0 args then (ef f (PV.tys a.ats args) []).map (behind σ)
    else match mapO (dfr σ 9) args with
      | some args' => match ef f (PV.tys a.ats args') [] with
        | some r => if r.1.nl && r.2.all AObj.nl then some (behind σ r) else none
        | none => none
      | none => none
  | none => none
def callV (fns : Fns) (ef : FuncId → List PV → List AObj → Option (PV × List AObj)) : CF := fun p args σ =>
  match p with
  | .val (.func (.func f) first caps) => if first.size = 0 ∧ caps.size = 0 then callM fns ef f args σ else none
  | .fn f caps => callM fns ef f (args ++ caps) σ
  | _ => none

def evN (fns : Fns) (rt : RT) : Nat → FuncId → List PV → List AObj → Option (PV × List AObj)
  | 0, _, _, _ => none
  | n + 1, f, args, σ => match fns f with
    | some a => match a.sp with
      | some g => g args σ
      | none => if args.length ≤ a.nt then (runN rt (callV fns (evN fns rt n)) a.nt σ.length n [.code a.ac] (frA 0 args) σ).bind (fin a σ.length) else none
    | none => none

/-- An exact contract. -/
abbrev Gets (P : Program) (f : FuncId) (args : List PV) (σ : List AObj) (r : PV × List AObj) : Prop := ACall P f args σ fun q τ => q = r.1 ∧ τ = r.2
/-- A function's code is checked, or what is told of it is right (sp). -/
def FnOk (P : Program) (f : FuncId) (a : FnA) : Prop := match a.sp with
  | none => chkFn P f a.ac a.rs a.nt = true
  | some g => callable P f = true ∧ ∀ args σ r, g args σ = some r → Gets P f args σ r
theorem FnOk.callable {P : Program} {f : FuncId} {a : FnA} (h : FnOk P f a) : callable P f = true := by
  unfold FnOk at h
  split at h
  · exact chkFn_callable h
  · exact h.1
def FnsOk (P : Program) (fns : Fns) : Prop := ∀ f a, fns f = some a → FnOk P f a

section
variable {P : Program} {fns : Fns} {rt : RT}

/-- What a call returned, frozen. -/
theorem ACall_froz {f : FuncId} {args : List PV} {r : PV × List AObj} {q : PV} (h : Gets P f args [] r) (hd : dfr r.2 9 r.1 = some q) : Gets P f args [] (q, []) := by
  intro g vs hg hst hr
  refine (h g vs hg hst hr).mono ?_
  rintro e w' ⟨v, p, σ', ρ', rfl, h1, h2, h3, rfl, rfl⟩
  refine ⟨v, q, [], [], rfl, St.empty fun b hb => Nat.lt_of_lt_of_le (hst.hid.1 b hb) h2.size, ⟨rfl, h2.os, h2.tape, h2.output, h2.size, h2.block, fun i b hi => by simp at hi, fun i sz es ver ho => by rw [hg] at ho; simp at ho⟩, dfr_sound h1 h3 hd, rfl, rfl⟩

theorem callM_sound {ef : FuncId → List PV → List AObj → Option (PV × List AObj)} (hf : FnsOk P fns) (h : ∀ f args σ r, ef f args σ = some r → Gets P f args σ r) {f : FuncId} {args : List PV} {σ : List AObj} {r : PV × List AObj}
    (hr : callM fns ef f args σ = some r) : callable P f = true ∧ Gets P f args σ r := by
  unfold callM at hr
  split at hr
  · rename_i a ha
    refine ⟨(hf f a ha).callable, ?_⟩
    split at hr
    · exact h _ _ _ _ hr
    · split at hr
      · rename_i hb
        simp only [Option.map_eq_some_iff] at hr
        obtain ⟨q, hq, rfl⟩ := hr
        refine (ACall_lend (full := true) (ACall.tys (h _ _ _ _ hq)) (by simp [hb]) (by simp)).mono ?_
        rintro p τ ⟨q', τ', ⟨rfl, rfl⟩, rfl, rfl⟩
        exact ⟨rfl, rfl⟩
      · split at hr
        · rename_i args' ha'
          split at hr
          · rename_i q hq
            split at hr
            · rename_i hn
              injection hr with hr; subst hr
              simp only [Bool.and_eq_true, List.all_eq_true] at hn
              refine (ACall_lend (full := false) (ACall.tys (h _ _ _ _ hq)) (by simpa using ⟨9, ha'⟩) ?_).mono ?_
              · rintro _ p τ ⟨rfl, rfl⟩; exact hn
              · rintro p τ ⟨q', τ', ⟨rfl, rfl⟩, rfl, rfl⟩
                exact ⟨rfl, rfl⟩
            · cases hr
          · cases hr
        · cases hr
  · cases hr

theorem callV_ok {ef : FuncId → List PV → List AObj → Option (PV × List AObj)} (hf : FnsOk P fns) (h : ∀ f args σ r, ef f args σ = some r → Gets P f args σ r) : CfOk P (callV fns ef) := by
  intro p args σ r hr
  unfold callV at hr
  unfold ACallV
  split at hr
  · split at hr
    · rename_i hc
      obtain ⟨k1, k2⟩ := callM_sound hf h hr
      exact ⟨Array.eq_empty_of_size_eq_zero hc.1, Array.eq_empty_of_size_eq_zero hc.2, k1, k2⟩
    · cases hr
  · obtain ⟨k1, k2⟩ := callM_sound hf h hr
    exact ⟨k1, k2⟩
  · cases hr

theorem evN_sound (hm : P.follows .mixedOrders = true) (hf : FnsOk P fns) (hrt : RtOk rt) : ∀ (n : Nat) (f : FuncId) (args : List PV) (σ : List AObj) (r : PV × List AObj), evN fns rt n f args σ = some r → Gets P f args σ r := by
  intro n
  induction n with
  | zero => intro f args σ r h; simp [evN] at h
  | succ n ih =>
    intro f args σ r h
    simp only [evN] at h
    split at h
    · rename_i a ha
      have hfn := hf f a ha
      unfold FnOk at hfn
      split at h
      · rename_i g hg
        rw [hg] at hfn
        exact hfn.2 _ _ _ h
      rename_i hsp
      rw [hsp] at hfn
      simp only at hfn
      split at h
      · rename_i hl
        rw [Option.bind_eq_some_iff] at h
        obtain ⟨q, hq, hfin⟩ := h
        have key0 : ∀ r, fin0 a σ.length q = some r → Gets P f args σ r := by
         intro r hfin
         refine ACall_of hfn ?_
         rw [dn_init _ _ hl]
         refine (run_sound hm (callV_ok hf ih) hrt n hq).mono ?_
         have key : ∀ fr τ, (fr = dn a.nt q.1 ∧ τ = q.2) → ∃ fr' σ' ps m, σ.length ≤ m ∧ Imp σ.length fr τ fr' σ' ∧ aress fr' σ' a.rs = some ps ∧ PV.bels m ps = true ∧ objsBel m (σ'.take m) = true ∧ (resOf ps = r.1 ∧ σ'.take m = r.2) := by
           rintro fr τ ⟨rfl, rfl⟩
           unfold fin0 at hfin
           split at hfin
           · rename_i ps hps
             split at hfin
             · rename_i hc
               simp only [Bool.and_eq_true] at hc
               injection hfin with hfin; subst hfin
               exact ⟨_, _, ps, σ.length, Nat.le_refl _, Imp.refl _ _ _, hps, hc.1, hc.2, rfl, rfl⟩
             · split at hfin
               · rename_i hc
                 simp only [Bool.and_eq_true, decide_eq_true_eq] at hc
                 injection hfin with hfin; subst hfin
                 exact ⟨_, _, ps, q.2.length, hc.1.1, Imp.refl _ _ _, hps, hc.1.2, by rw [List.take_length]; exact hc.2, rfl, by simp⟩
               · cases hfin
           · cases hfin
         intro x fr τ hx
         cases x with
         | exit id => obtain ⟨ks', m, l, h0, _⟩ := hx; simp [exitK] at h0
         | ret => exact key fr τ hx
         | normal =>
           obtain ⟨m, l, h1, h2, h3⟩ := hx
           cases m with
           | zero => simp [runN] at h3
           | succ m => simp only [runN, Option.some.injEq] at h3; subst h3; exact key fr τ ⟨h2, rfl⟩
        unfold fin at hfin
        split at hfin
        · rename_i q' hq'
          split at hfin
          · split at hfin
            · rename_i h0
              have hσ : σ = [] := List.eq_nil_of_length_eq_zero h0
              subst hσ
              rw [Option.map_eq_some_iff] at hfin
              obtain ⟨p, hp, rfl⟩ := hfin
              refine (ACall.tyr (s := a.rsh) (ACall_froz (key0 q' hq') hp)).mono ?_
              rintro q2 τ ⟨p2, ⟨rfl, rfl⟩, rfl⟩
              exact ⟨rfl, rfl⟩
            · cases hfin
          · injection hfin with hfin; subst hfin; exact key0 _ hq'
        · cases hfin
      · cases h
    · cases h
end

mutual
/-- Surely the same. -/
def PV.eqb : PV → PV → Bool
  | .any, .any => true
  | .val a, .val b => zeq a b
  | .agg a, .agg b => PV.eqbs a b
  | .tup a, .tup b => PV.eqbs a b
  | .list s a x, .list t b y => s == t && x == y && PV.eqbs a b
  | .fptr a i, .fptr b j => i == j && PV.eqbs a b
  | .own a b c d, .own e f g h => a == e && b == f && c == g && d == h
  | .ptr a b c d, .ptr e f g h => a == e && b == f && c == g && d == h
  | .fn f a, .fn g b => f == g && PV.eqbs a b
  | .tl s a, .tl t b => s == t && PV.eqbs a b
  | _, _ => false
def PV.eqbs : List PV → List PV → Bool
  | [], [] => true
  | a :: as, b :: bs => PV.eqb a b && PV.eqbs as bs
  | _, _ => false
end
mutual
theorem PV.eqb_eq : ∀ {a b : PV}, PV.eqb a b = true → a = b
  | .any, b, h => by cases b <;> simp [PV.eqb] at h; rfl
  | .val a, b, h => by cases b <;> simp [PV.eqb] at h; rw [zeq_eq h]
  | .agg a, b, h => by cases b <;> simp [PV.eqb] at h; rw [PV.eqbs_eq h]
  | .tup a, b, h => by cases b <;> simp [PV.eqb] at h; rw [PV.eqbs_eq h]
  | .list s a x, b, h => by cases b <;> simp [PV.eqb] at h; rw [h.1.1, h.1.2, PV.eqbs_eq h.2]
  | .fptr a i, b, h => by cases b <;> simp [PV.eqb] at h; rw [h.1, PV.eqbs_eq h.2]
  | .own _ _ _ _, b, h => by cases b <;> simp [PV.eqb] at h; simp [h]
  | .ptr _ _ _ _, b, h => by cases b <;> simp [PV.eqb] at h; simp [h]
  | .fn f a, b, h => by cases b <;> simp [PV.eqb] at h; rw [h.1, PV.eqbs_eq h.2]
  | .tl s a, b, h => by cases b <;> simp [PV.eqb] at h; rw [h.1, PV.eqbs_eq h.2]
theorem PV.eqbs_eq : ∀ {a b : List PV}, PV.eqbs a b = true → a = b
  | [], b, h => by cases b <;> simp [PV.eqbs] at h; rfl
  | a :: as, b, h => by cases b <;> simp [PV.eqbs] at h; rw [PV.eqb_eq h.1, PV.eqbs_eq h.2]
end

/-- What is asked again, by computing. -/
def rc1B (fr : List PV) (σ : List AObj) (y : AIn) : Bool := match guardA fr y.g with
  | some true => match y.s, y.dst with
    | .op i, some t => match fr[t]? with
      | some p => match ai fr σ i with
        | some r => !i.eff && PV.eqb r.1 p
        | none => false
      | none => false
    | _, _ => false
  | some false => true
  | none => false
def rtB : RT := fun fr σ h rc => h.all fun y => !rc.contains y.idx || rc1B fr σ y.x
theorem rtB_ok : RtOk rtB := by
  intro fr σ h rc hh
  have one : ∀ y : AIn, rc1B fr σ y = true → rc1 fr σ y := by
    intro y hy
    unfold rc1B at hy
    unfold rc1
    split at hy
    · rename_i hg
      rw [hg]
      split at hy
      · rename_i i t hs hd
        rw [hs, hd]
        split at hy
        · rename_i p hp
          simp only [hp]
          split at hy
          · rename_i r hr
            simp only [Bool.and_eq_true, Bool.not_eq_true'] at hy
            have := ai_noeff hy.1 hr
            rw [hr, ← PV.eqb_eq hy.2, ← this]
          · cases hy
        · cases hy
      · cases hy
    · rename_i hg
      rw [hg]; trivial
    · cases hy
  induction h with
  | nil => trivial
  | cons y h ih =>
    simp only [rtB, List.all_cons, Bool.and_eq_true] at hh
    refine ⟨?_, ih hh.2⟩
    split
    · rename_i hc
      have := hh.1
      rw [hc] at this
      exact one _ (by simpa using this)
    · trivial

end Aw
end Go.Proofs.Ytjfpmpbdbpgofaa

set_option linter.unusedVariables false
set_option linter.unusedSimpArgs false
namespace Go.Proofs.Ytjfpmpbdbpgofaa
namespace Aw

section
variable {α : Type}
def fN (m : Nat) (k : Nat → α) : α := match m with
  | 0 => k 0
  | m + 1 => k (m + 1)
@[simp] theorem fN_eq (m : Nat) (k : Nat → α) : fN m k = k m := by cases m <;> rfl
def fI (n : Int) (k : Int → α) : α := match n with
  | .ofNat m => fN m fun m => k (.ofNat m)
  | .negSucc m => fN m fun m => k (.negSucc m)
@[simp] theorem fI_eq (m : Int) (k : Int → α) : fI m k = k m := by cases m <;> simp [fI]
def fB (b : Bool) (k : Bool → α) : α := match b with
  | true => k true
  | false => k false
@[simp] theorem fB_eq (b : Bool) (k : Bool → α) : fB b k = k b := by cases b <;> rfl
def fL {β : Type} (f : β → (β → α) → α) : List β → (List β → α) → α
  | [], k => k []
  | x :: xs, k => f x fun y => fL f xs fun ys => k (y :: ys)
theorem fL_eq {β : Type} {f : β → (β → α) → α} (hf : ∀ x k, f x k = k x) : ∀ (xs : List β) (k : List β → α), fL f xs k = k xs
  | [], k => rfl
  | x :: xs, k => by simp only [fL, hf, fL_eq hf xs]
def fU (b : UInt8) (k : UInt8 → α) : α := fN b.toNat fun n => k (UInt8.ofNat n)
@[simp] theorem fU_eq (b : UInt8) (k : UInt8 → α) : fU b k = k b := by simp [fU]
def fS (s : ByteArray) (k : ByteArray → α) : α := fL fU s.data.toList fun l => k ⟨⟨l⟩⟩
@[simp] theorem fS_eq (s : ByteArray) (k : ByteArray → α) : fS s k = k s := by
  simp only [fS]; rw [fL_eq fU_eq]
def fV (v : Value) (k : Value → α) : α := match v with
  | .int t n => fI n fun n => k (.int t n)
  | .bool b => fB b fun b => k (.bool b)
  | .string s => fS s fun s => k (.string s)
  | v => k v
@[simp] theorem fV_eq (v : Value) (k : Value → α) : fV v k = k v := by cases v <;> simp [fV]
mutual
def fP : PV → (PV → α) → α
  | .any, k => k .any
  | .val v, k => fV v fun v => k (.val v)
  | .agg ps, k => fPs ps fun ps => k (.agg ps)
  | .tup ps, k => fPs ps fun ps => k (.tup ps)
  | .list sz xs ex, k => fPs xs fun xs => fB ex fun ex => k (.list sz xs ex)
  | .fptr cs off, k => fPs cs fun cs => fN off fun off => k (.fptr cs off)
  | .own a b c d, k => fN a fun a => fN b fun b => fN c fun c => fN d fun d => k (.own a b c d)
  | .ptr a b c d, k => fN a fun a => fN b fun b => fN c fun c => fN d fun d => k (.ptr a b c d)
  | .fn f ps, k => fPs ps fun ps => k (.fn f ps)
  | .tl s ps, k => fPs ps fun ps => k (.tl s ps)
def fPs : List PV → (List PV → α) → α
  | [], k => k []
  | p :: ps, k => fP p fun p => fPs ps fun ps => k (p :: ps)
end
mutual
@[simp] theorem fP_eq : ∀ (p : PV) (k : PV → α), fP p k = k p
  | .any, k => by simp [fP]
  | .val v, k => by simp [fP]
  | .agg ps, k => by simp [fP, fPs_eq ps]
  | .tup ps, k => by simp [fP, fPs_eq ps]
  | .list sz xs ex, k => by simp [fP, fPs_eq xs]
  | .fptr cs off, k => by simp [fP, fPs_eq cs]
  | .own a b c d, k => by simp [fP]
  | .ptr a b c d, k => by simp [fP]
  | .fn f ps, k => by simp [fP, fPs_eq ps]
  | .tl s ps, k => by simp [fP, fPs_eq ps]
@[simp] theorem fPs_eq : ∀ (ps : List PV) (k : List PV → α), fPs ps k = k ps
  | [], k => by simp [fPs]
  | p :: ps, k => by simp [fPs, fP_eq p, fPs_eq ps]
end
def fO : AObj → (AObj → α) → α
  | .row sz es ver, k => fPs es fun es => fN ver fun ver => k (.row sz es ver)
@[simp] theorem fO_eq (o : AObj) (k : AObj → α) : fO o k = k o := by cases o; simp [fO]
def fOs (σ : List AObj) (k : List AObj → α) : α := fL fO σ k
@[simp] theorem fOs_eq (σ : List AObj) (k : List AObj → α) : fOs σ k = k σ := fL_eq fO_eq σ k
def fE (e : Nat × PV) (k : Nat × PV → α) : α := match e with | (t, p) => k (t, p)
def fFr (l : Fr) (k : Fr → α) : α := fL fE l k
@[simp] theorem fFr_eq (l : Fr) (k : Fr → α) : fFr l k = k l := fL_eq (f := fE) (fun e k => by cases e; rfl) l k
end

/-- The same as runN. -/
def runF (rt : RT) (cf : CF) (N n0 : Nat) : Nat → List KI → Fr → List AObj → Option (Fr × List AObj)
  | 0, _, _, _ => none
  | _ + 1, [], l, σ => some (l, σ)
  | n + 1, .inBlock _ :: ks, l, σ => runF rt cf N n0 n ks l σ
  | n + 1, .ins [] :: ks, l, σ => runF rt cf N n0 n ks l σ
  | n + 1, .ins (x :: xs) :: ks, l, σ => match guardA (dn N l) x.g with
    | some true => match x.s with
      | .op i => match ai (dn N l) σ i with
        | some r => fP r.1 fun p => fFr (putD l x.dst p) fun l => match i.eff with
          | true => fOs r.2 fun σ => runF rt cf N n0 n (.ins xs :: ks) l σ
          | false => runF rt cf N n0 n (.ins xs :: ks) l r.2
        | none => none
      | .call f args z => fP (aev (dn N l) f) fun f => fPs (args.map (aev (dn N l))) fun args => match cz z cf f args σ with
        | some r => fP r.1 fun p => fFr (putD l x.dst p) fun l => fOs r.2 fun σ => runF rt cf N n0 n (.ins xs :: ks) l σ
        | none => none
    | some false => fFr (kilD l x.dst) fun l => runF rt cf N n0 n (.ins xs :: ks) l σ
    | none => none
  | n + 1, .dins [] _ :: ks, l, σ => runF rt cf N n0 n ks l σ
  | n + 1, .dins (d :: ds) h :: ks, l, σ => match guardA (dn N l) d.x.g with
    | some true => match d.x.s with
      | .op i => match ai (dn N l) σ i with
        | some r => fP r.1 fun p => fOs r.2 fun σ => match !i.eff || rt (dn N l) σ h d.rc with
          | true => fFr (putD l d.x.dst p) fun l => runF rt cf N n0 n (.dins ds (d :: h) :: ks) l σ
          | false => none
        | none => none
      | .call f args z => fP (aev (dn N l) f) fun f => fPs (args.map (aev (dn N l))) fun args => match cz z cf f args σ with
        | some r => fP r.1 fun p => fOs r.2 fun σ => match rt (dn N l) σ h d.rc with
          | true => fFr (putD l d.x.dst p) fun l => runF rt cf N n0 n (.dins ds (d :: h) :: ks) l σ
          | false => none
        | none => none
    | some false => fFr (kilD l d.x.dst) fun l => runF rt cf N n0 n (.dins ds (d :: h) :: ks) l σ
    | none => none
  | n + 1, .code .skip :: ks, l, σ => runF rt cf N n0 n ks l σ
  | n + 1, .code (.seq a b) :: ks, l, σ => runF rt cf N n0 n (.code a :: .code b :: ks) l σ
  | n + 1, .code (.cond c t e) :: ks, l, σ => match aev (dn N l) c with
    | .val (.bool b) => match b with
      | true => runF rt cf N n0 n (.code t :: ks) l σ
      | false => runF rt cf N n0 n (.code e :: ks) l σ
    | _ => none
  | n + 1, .code (.block id a) :: ks, l, σ => runF rt cf N n0 n (.code a :: .inBlock id :: ks) l σ
  | n + 1, .code (.loop a) :: ks, l, σ => runF rt cf N n0 n (.code a :: .code (.loop a) :: ks) l σ
  | n + 1, .code (.exit id) :: ks, l, σ => match exitK id ks with
    | some ks' => runF rt cf N n0 n ks' l σ
    | none => none
  | n + 1, .code .ret :: ks, l, σ => some (l, σ)
  | n + 1, .code (.reg xs) :: ks, l, σ => runF rt cf N n0 n (.ins xs :: ks) l σ
  | n + 1, .code (.draw ds _) :: ks, l, σ => runF rt cf N n0 n (.dins ds [] :: ks) l σ
  | n + 1, .gh g :: ks, l, σ => match evG n0 l σ g with
    | some r => fFr r.1 fun l => fOs r.2 fun σ => runF rt cf N n0 n ks l σ
    | none => none
  | n + 1, .code (.post a g) :: ks, l, σ => runF rt cf N n0 n (.code a :: .gh g :: ks) l σ
  | n + 1, .code (.ghost g a) :: ks, l, σ => match evG n0 l σ g with
    | some r => fFr r.1 fun l => fOs r.2 fun σ => runF rt cf N n0 n (.code a :: ks) l σ
    | none => none

theorem runF_eq (rt : RT) (cf : CF) (N n0 : Nat) : ∀ (n : Nat) (ks : List KI) (l : Fr) (σ : List AObj), runF rt cf N n0 n ks l σ = runN rt cf N n0 n ks l σ := by
  intro n
  induction n with
  | zero => intro ks l σ; simp [runF, runN]
  | succ n ih =>
    intro ks l σ
    match ks with
    | [] => simp [runF, runN]
    | .inBlock _ :: ks => simp [runF, runN, ih]
    | .gh g :: ks => simp only [runF, runN, ih, fOs_eq, fFr_eq]; cases evG n0 l σ g <;> rfl
    | .ins [] :: ks => simp [runF, runN, ih]
    | .ins (x :: xs) :: ks =>
      simp only [runF, runN, fP_eq, fPs_eq, fOs_eq, fFr_eq, ih]
      cases hg : guardA (dn N l) x.g with
      | none => rfl
      | some b =>
        cases b with
        | false => rfl
        | true =>
          cases hs : x.s with
          | op i =>
            simp only
            cases ha : ai (dn N l) σ i with
            | none => rfl
            | some r => simp only; cases i.eff <;> rfl
          | call f args z => rfl
    | .dins [] _ :: ks => simp [runF, runN, ih]
    | .dins (d :: ds) h :: ks =>
      simp only [runF, runN, fP_eq, fPs_eq, fOs_eq, fFr_eq, ih]
      cases hg : guardA (dn N l) d.x.g with
      | none => rfl
      | some b =>
        cases b with
        | false => rfl
        | true =>
          cases hs : d.x.s with
          | op i =>
            simp only
            cases ha : ai (dn N l) σ i with
            | none => rfl
            | some r => simp only; cases hh : (!i.eff || rt (dn N l) r.2 h d.rc) <;> simp
          | call f args z =>
            simp only
            cases ha : cz z cf (aev (dn N l) f) (args.map (aev (dn N l))) σ with
            | none => rfl
            | some r => simp only; cases hh : rt (dn N l) r.2 h d.rc <;> simp
    | .code c :: ks =>
      cases c with
      | cond c t e =>
        simp only [runF, runN, ih]
        cases aev (dn N l) c with
        | val v =>
          cases v with
          | bool b => cases b <;> simp
          | _ => rfl
        | _ => rfl
      | exit id => simp only [runF, runN, ih]; cases exitK id ks <;> rfl
      | ghost g a => simp only [runF, runN, ih, fOs_eq, fFr_eq]; cases evG n0 l σ g <;> rfl
      | _ => simp [runF, runN, ih]

def evF (fns : Fns) (rt : RT) : Nat → FuncId → List PV → List AObj → Option (PV × List AObj)
  | 0, _, _, _ => none
  | n + 1, f, args, σ => match fns f with
    | some a => match a.sp with
     | some g => g args σ
     | none => match decide (args.length ≤ a.nt) with
      | true => match runF rt (callV fns (evF fns rt n)) a.nt σ.length n [.code a.ac] (frA 0 args) σ with
        | some r => fin a σ.length r
        | none => none
      | false => none
    | none => none
theorem evF_eq (fns : Fns) (rt : RT) : ∀ (n : Nat), evF fns rt n = evN fns rt n := by
  intro n
  induction n with
  | zero => funext f args σ; simp [evF, evN]
  | succ n ih =>
    funext f args σ
    simp only [evF, evN, ih, runF_eq]
    cases fns f with
    | none => rfl
    | some a =>
      simp only
      cases a.sp with
      | some g => rfl
      | none =>
      simp only
      cases hd : decide (args.length ≤ a.nt) with
      | true =>
        simp only [decide_eq_true_eq] at hd
        rw [if_pos hd]
        simp only
        cases runN rt (callV fns (evN fns rt n)) a.nt σ.length n [.code a.ac] (frA 0 args) σ <;> rfl
      | false =>
        simp only [decide_eq_false_iff_not] at hd
        rw [if_neg hd]

end Aw
end Go.Proofs.Ytjfpmpbdbpgofaa

set_option linter.unusedVariables false
set_option linter.unusedSimpArgs false
namespace Go.Proofs.Ytjfpmpbdbpgofaa
namespace Aw
open Go.RowKit

theorem Step.below {g g' : G} (h : Step g g') (hr : ∀ i : Nat, g.ρ[i]? = none) : Below g.w.heap.size g.w g'.w :=
  ⟨h.os, h.tape, h.output, h.size, fun b hb => h.block b hb fun i hi => by rw [hr] at hi; cases hi⟩

theorem calls_of_gets {P : Program} {f : FuncId} {args : List PV} {vs : List Value} {v : Value} {σ' : List AObj} {w : World} (h : Gets P f args [] (.val v, σ')) (hr : Rs ⟨[], [], w, []⟩ args vs) :
    Calls P f vs.toArray w fun e w' => e = .returned v ∧ Below w.heap.size w w' := by
  refine (h ⟨[], [], w, []⟩ vs rfl (St.empty (by simp)) hr).mono ?_
  rintro e w' ⟨u, p, τ, ρ', rfl, h1, h2, h3, rfl, h5⟩
  rw [R_val] at h3; subst h3
  exact ⟨rfl, h2.below fun i => by simp⟩

/-- The law came out true. -/
def isT (r : Option (PV × List AObj)) : Bool := match r with
  | some (.val (.bool true), []) => true
  | _ => false
theorem isT_eq {r : Option (PV × List AObj)} (h : isT r = true) : r = some (.val (.bool true), []) := by
  unfold isT at h
  split at h
  · rfl
  · cases h
theorem calls_of_isT {P : Program} {fns : Fns} {n : Nat} {f : FuncId} (hm : P.follows .mixedOrders = true) (hf : FnsOk P fns) (h : isT (evF fns rtB n f [] []) = true) (w : World) :
    Calls P f #[] w fun e w' => e = .returned (.bool true) ∧ Below w.heap.size w w' :=
  calls_of_gets (vs := []) (evN_sound hm hf rtB_ok n f [] [] _ (by rw [← evF_eq]; exact isT_eq h)) (Rs.nil _)

/-- A table of functions, each with its check. -/
structure FnE (P : Program) where
  f : Nat
  a : FnA
  ok : FnOk P f a
def fnsOf {P : Program} : List (FnE P) → Fns
  | [], _ => none
  | e :: l, f => if e.f = f then some e.a else fnsOf l f
theorem fnsOf_ok {P : Program} : ∀ l : List (FnE P), FnsOk P (fnsOf l)
  | [], f, a, h => by simp [fnsOf] at h
  | e :: l, f, a, h => by
    simp only [fnsOf] at h
    split at h
    · rename_i hf; subst hf; injection h with h; subst h; exact e.ok
    · exact fnsOf_ok l f a h

end Aw
end Go.Proofs.Ytjfpmpbdbpgofaa
