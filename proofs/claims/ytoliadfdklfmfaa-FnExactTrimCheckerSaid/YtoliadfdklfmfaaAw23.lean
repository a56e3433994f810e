/- Functions, evaluated with fuel; what is told is right. -/
import Derived.Test.YtoliadfdklfmfaaAw22
import Derived.Test.YtoliadfdklfmfaaAw31
set_option linter.unusedVariables false
set_option linter.unusedSimpArgs false
namespace Go.Proofs.Ytoliadfdklfmfaa
namespace Aw

structure FnA where
  ac : AC
  rs : List ARes
  nt : Nat
  plain : Bool := false
  fz : Bool := false
  ats : List Sh := []
  rsh : Sh := .any
  sp : Option (List PV → List AObj → Option (PV × List AObj)) := none
abbrev Fns := FuncId → Option FnA

/-- What is returned, and the objects that stay. -/
def fin0 (a : FnA) (n0 : Nat) (r : Fr × List AObj) : Option (PV × List AObj) :=
  match aress (dn a.nt r.1) r.2 a.rs with
  | some ps =>
    if PV.bels n0 ps && objsBel n0 (r.2.take n0) then some (resOf ps, r.2.take n0)
    else if decide (n0 ≤ r.2.length) && PV.bels r.2.length ps && objsBel r.2.length r.2 then some (resOf ps, r.2) else none
  | none => none
/-- The same; a function that freezes (fz) returns what nobody will write again, and leaves no objects. -/
def fin (a : FnA) (n0 : Nat) (r : Fr × List AObj) : Option (PV × List AObj) :=
  match fin0 a n0 r with
  | some q => match a.fz with
    | true => if n0 = 0 then (dfr q.2 9 q.1).map fun p => (PV.ty a.rsh p, []) else none
    | false => some q
  | none => none

def behind (σ : List AObj) (r : PV × List AObj) : PV × List AObj := (r.1.sh σ.length, σ ++ r.2.map (AObj.sh σ.length))

/-- A call of a function of the table. -/
def callM (fns : Fns) (ef : FuncId → List PV → List AObj → Option (PV × List AObj)) (f : FuncId) (args : List PV) (σ : List AObj) : Option (PV × List AObj) :=
  match fns f with
  | some a =>
    if a.plain then ef f args σ
    else if PV.bels 0 args then (ef f (PV.tys a.ats args) []).map (behind σ)
    else match mapO (dfr σ 9) args with
      | some args' => match ef f (PV.tys a.ats args') [] with
        | some r => if r.1.nl && r.2.all AObj.nl then some (behind σ r) else none
        | none => none
      | none => none
  | none => none
def callV (fns : Fns) (ef : FuncId → List PV → List AObj → Option (PV × List AObj)) : CF := fun p args σ =>
  match p with
  | .val (.func (.func f) first caps) => if first.size = 0 ∧ caps.size = 0 then callM fns ef f args σ else none
  | .fn f caps => callM fns ef f (args ++ caps) σ
  | _ => none

noncomputable def evN (fns : Fns) (rt : RT) : Nat → FuncId → List PV → List AObj → Option (PV × List AObj)
  | 0, _, _, _ => none
  | n + 1, f, args, σ => match fns f with
    | some a => match a.sp with
      | some g => g args σ
      | none => if args.length ≤ a.nt then (runN rt (callV fns (evN fns rt n)) a.nt σ.length n [.code a.ac] (frA 0 args) σ).bind (fin a σ.length) else none
    | none => none

/-- An exact contract. -/
abbrev Gets (P : Program) (f : FuncId) (args : List PV) (σ : List AObj) (r : PV × List AObj) : Prop := ACall P f args σ fun q τ => q = r.1 ∧ τ = r.2
/-- A function's code is checked, or what is told of it is right (sp). -/
def FnOk (P : Program) (f : FuncId) (a : FnA) : Prop := match a.sp with
  | none => chkFn P f a.ac a.rs a.nt = true
  | some g => callable P f = true ∧ ∀ args σ r, g args σ = some r → Gets P f args σ r
theorem FnOk.callable {P : Program} {f : FuncId} {a : FnA} (h : FnOk P f a) : callable P f = true := by
  unfold FnOk at h
  split at h
  · exact chkFn_callable h
  · exact h.1
def FnsOk (P : Program) (fns : Fns) : Prop := ∀ f a, fns f = some a → FnOk P f a

section
variable {P : Program} {fns : Fns} {rt : RT}

/-- What a call returned, frozen. -/
theorem ACall_froz {f : FuncId} {args : List PV} {r : PV × List AObj} {q : PV} (h : Gets P f args [] r) (hd : dfr r.2 9 r.1 = some q) : Gets P f args [] (q, []) := by
  intro g vs hg hst hr
  refine (h g vs hg hst hr).mono ?_
  rintro e w' ⟨v, p, σ', ρ', rfl, h1, h2, h3, rfl, rfl⟩
  refine ⟨v, q, [], [], rfl, St.empty fun b hb => Nat.lt_of_lt_of_le (hst.hid.1 b hb) h2.size, ⟨rfl, h2.os, h2.tape, h2.output, h2.size, h2.block, fun i b hi => by simp at hi, fun i sz es ver ho => by rw [hg] at ho; simp at ho⟩, dfr_sound h1 h3 hd, rfl, rfl⟩

theorem callM_sound {ef : FuncId → List PV → List AObj → Option (PV × List AObj)} (hf : FnsOk P fns) (h : ∀ f args σ r, ef f args σ = some r → Gets P f args σ r) {f : FuncId} {args : List PV} {σ : List AObj} {r : PV × List AObj}
    (hr : callM fns ef f args σ = some r) : callable P f = true ∧ Gets P f args σ r := by
  unfold callM at hr
  split at hr
  · rename_i a ha
    refine ⟨(hf f a ha).callable, ?_⟩
    split at hr
    · exact h _ _ _ _ hr
    · split at hr
      · rename_i hb
        simp only [Option.map_eq_some_iff] at hr
        obtain ⟨q, hq, rfl⟩ := hr
        refine (ACall_lend (full := true) (ACall.tys (h _ _ _ _ hq)) (by simp [hb]) (by simp)).mono ?_
        rintro p τ ⟨q', τ', ⟨rfl, rfl⟩, rfl, rfl⟩
        exact ⟨rfl, rfl⟩
      · split at hr
        · rename_i args' ha'
          split at hr
          · rename_i q hq
            split at hr
            · rename_i hn
              injection hr with hr; subst hr
              simp only [Bool.and_eq_true, List.all_eq_true] at hn
              refine (ACall_lend (full := false) (ACall.tys (h _ _ _ _ hq)) (by simpa using ⟨9, ha'⟩) ?_).mono ?_
              · rintro _ p τ ⟨rfl, rfl⟩; exact hn
              · rintro p τ ⟨q', τ', ⟨rfl, rfl⟩, rfl, rfl⟩
                exact ⟨rfl, rfl⟩
            · cases hr
          · cases hr
        · cases hr
  · cases hr

theorem callV_ok {ef : FuncId → List PV → List AObj → Option (PV × List AObj)} (hf : FnsOk P fns) (h : ∀ f args σ r, ef f args σ = some r → Gets P f args σ r) : CfOk P (callV fns ef) := by
  intro p args σ r hr
  unfold callV at hr
  unfold ACallV
  split at hr
  · split at hr
    · rename_i hc
      obtain ⟨k1, k2⟩ := callM_sound hf h hr
      exact ⟨Array.eq_empty_of_size_eq_zero hc.1, Array.eq_empty_of_size_eq_zero hc.2, k1, k2⟩
    · cases hr
  · obtain ⟨k1, k2⟩ := callM_sound hf h hr
    exact ⟨k1, k2⟩
  · cases hr

theorem evN_sound (hm : P.follows .mixedOrders = true) (hf : FnsOk P fns) (hrt : RtOk rt) : ∀ (n : Nat) (f : FuncId) (args : List PV) (σ : List AObj) (r : PV × List AObj), evN fns rt n f args σ = some r → Gets P f args σ r := by
  intro n
  induction n with
  | zero => intro f args σ r h; simp [evN] at h
  | succ n ih =>
    intro f args σ r h
    simp only [evN] at h
    split at h
    · rename_i a ha
      have hfn := hf f a ha
      unfold FnOk at hfn
      split at h
      · rename_i g hg
        rw [hg] at hfn
        exact hfn.2 _ _ _ h
      rename_i hsp
      rw [hsp] at hfn
      simp only at hfn
      split at h
      · rename_i hl
        rw [Option.bind_eq_some_iff] at h
        obtain ⟨q, hq, hfin⟩ := h
        have key0 : ∀ r, fin0 a σ.length q = some r → Gets P f args σ r := by
         intro r hfin
         refine ACall_of hfn ?_
         rw [dn_init _ _ hl]
         refine (run_sound hm (callV_ok hf ih) hrt n hq).mono ?_
         have key : ∀ fr τ, (fr = dn a.nt q.1 ∧ τ = q.2) → ∃ fr' σ' ps m, σ.length ≤ m ∧ Imp σ.length fr τ fr' σ' ∧ aress fr' σ' a.rs = some ps ∧ PV.bels m ps = true ∧ objsBel m (σ'.take m) = true ∧ (resOf ps = r.1 ∧ σ'.take m = r.2) := by
           rintro fr τ ⟨rfl, rfl⟩
           unfold fin0 at hfin
           split at hfin
           · rename_i ps hps
             split at hfin
             · rename_i hc
               simp only [Bool.and_eq_true] at hc
               injection hfin with hfin; subst hfin
               exact ⟨_, _, ps, σ.length, Nat.le_refl _, Imp.refl _ _ _, hps, hc.1, hc.2, rfl, rfl⟩
             · split at hfin
               · rename_i hc
                 simp only [Bool.and_eq_true, decide_eq_true_eq] at hc
                 injection hfin with hfin; subst hfin
                 exact ⟨_, _, ps, q.2.length, hc.1.1, Imp.refl _ _ _, hps, hc.1.2, by rw [List.take_length]; exact hc.2, rfl, by simp⟩
               · cases hfin
           · cases hfin
         intro x fr τ hx
         cases x with
         | exit id => obtain ⟨ks', m, l, h0, _⟩ := hx; simp [exitK] at h0
         | ret => exact key fr τ hx
         | normal =>
           obtain ⟨m, l, h1, h2, h3⟩ := hx
           cases m with
           | zero => simp [runN] at h3
           | succ m => simp only [runN, Option.some.injEq] at h3; subst h3; exact key fr τ ⟨h2, rfl⟩
        unfold fin at hfin
        split at hfin
        · rename_i q' hq'
          split at hfin
          · split at hfin
            · rename_i h0
              have hσ : σ = [] := List.eq_nil_of_length_eq_zero h0
              subst hσ
              rw [Option.map_eq_some_iff] at hfin
              obtain ⟨p, hp, rfl⟩ := hfin
              refine (ACall.tyr (s := a.rsh) (ACall_froz (key0 q' hq') hp)).mono ?_
              rintro q2 τ ⟨p2, ⟨rfl, rfl⟩, rfl⟩
              exact ⟨rfl, rfl⟩
            · cases hfin
          · injection hfin with hfin; subst hfin; exact key0 _ hq'
        · cases hfin
      · cases h
    · cases h
end

mutual
/-- Surely the same. -/
def PV.eqb : PV → PV → Bool
  | .any, .any => true
  | .val a, .val b => zeq a b
  | .agg a, .agg b => PV.eqbs a b
  | .tup a, .tup b => PV.eqbs a b
  | .list s a x, .list t b y => s == t && x == y && PV.eqbs a b
  | .fptr a i, .fptr b j => i == j && PV.eqbs a b
  | .own a b c d, .own e f g h => a == e && b == f && c == g && d == h
  | .ptr a b c d, .ptr e f g h => a == e && b == f && c == g && d == h
  | .fn f a, .fn g b => f == g && PV.eqbs a b
  | .tl s a, .tl t b => s == t && PV.eqbs a b
  | _, _ => false
def PV.eqbs : List PV → List PV → Bool
  | [], [] => true
  | a :: as, b :: bs => PV.eqb a b && PV.eqbs as bs
  | _, _ => false
end
mutual
theorem PV.eqb_eq : ∀ {a b : PV}, PV.eqb a b = true → a = b
  | .any, b, h => by cases b <;> simp [PV.eqb] at h; rfl
  | .val a, b, h => by cases b <;> simp [PV.eqb] at h; rw [zeq_eq h]
  | .agg a, b, h => by cases b <;> simp [PV.eqb] at h; rw [PV.eqbs_eq h]
  | .tup a, b, h => by cases b <;> simp [PV.eqb] at h; rw [PV.eqbs_eq h]
  | .list s a x, b, h => by cases b <;> simp [PV.eqb] at h; rw [h.1.1, h.1.2, PV.eqbs_eq h.2]
  | .fptr a i, b, h => by cases b <;> simp [PV.eqb] at h; rw [h.1, PV.eqbs_eq h.2]
  | .own _ _ _ _, b, h => by cases b <;> simp [PV.eqb] at h; simp [h]
  | .ptr _ _ _ _, b, h => by cases b <;> simp [PV.eqb] at h; simp [h]
  | .fn f a, b, h => by cases b <;> simp [PV.eqb] at h; rw [h.1, PV.eqbs_eq h.2]
  | .tl s a, b, h => by cases b <;> simp [PV.eqb] at h; rw [h.1, PV.eqbs_eq h.2]
theorem PV.eqbs_eq : ∀ {a b : List PV}, PV.eqbs a b = true → a = b
  | [], b, h => by cases b <;> simp [PV.eqbs] at h; rfl
  | a :: as, b, h => by cases b <;> simp [PV.eqbs] at h; rw [PV.eqb_eq h.1, PV.eqbs_eq h.2]
end

/-- What is asked again, by computing. -/
def rc1B (fr : List PV) (σ : List AObj) (y : AIn) : Bool := match guardA fr y.g with
  | some true => match y.s, y.dst with
    | .op i, some t => match fr[t]? with
      | some p => match ai fr σ i with
        | some r => !i.eff && PV.eqb r.1 p
        | none => false
      | none => false
    | _, _ => false
  | some false => true
  | none => false
def rtB : RT := fun fr σ h rc => h.all fun y => !rc.contains y.idx || rc1B fr σ y.x
theorem rtB_ok : RtOk rtB := by
  intro fr σ h rc hh
  have one : ∀ y : AIn, rc1B fr σ y = true → rc1 fr σ y := by
    intro y hy
    unfold rc1B at hy
    unfold rc1
    split at hy
    · rename_i hg
      rw [hg]
      split at hy
      · rename_i i t hs hd
        rw [hs, hd]
        split at hy
        · rename_i p hp
          simp only [hp]
          split at hy
          · rename_i r hr
            simp only [Bool.and_eq_true, Bool.not_eq_true'] at hy
            have := ai_noeff hy.1 hr
            rw [hr, ← PV.eqb_eq hy.2, ← this]
          · cases hy
        · cases hy
      · cases hy
    · rename_i hg
      rw [hg]; trivial
    · cases hy
  induction h with
  | nil => trivial
  | cons y h ih =>
    simp only [rtB, List.all_cons, Bool.and_eq_true] at hh
    refine ⟨?_, ih hh.2⟩
    split
    · rename_i hc
      have := hh.1
      rw [hc] at this
      exact one _ (by simpa using this)
    · trivial

end Aw
end Go.Proofs.Ytoliadfdklfmfaa
