/- The evaluator: code over living slots, run with fuel; it is right. -/
import Derived.Test.YtoliadfdklfmfaaAw21
set_option linter.unusedVariables false
set_option linter.unusedSimpArgs false
namespace Go.Proofs.Ytoliadfdklfmfaa
namespace Aw

/-- What is left to do. -/
inductive KI where
  | code (a : AC)
  | ins (xs : List AIn)
  | dins (ds h : List DIn)
  | inBlock (id : Nat)
  | gh (g : Gh)

abbrev CF := PV → List PV → List AObj → Option (PV × List AObj)
/-- A call in a state of its own, what it returns frozen (z); else as it is told. -/
def cz (z : Bool) (cf : CF) : CF := fun p args σ => match z with
  | false => cf p args σ
  | true => if PV.bels 0 (p :: args) = true then match cf p args [] with
    | some r => (dfr r.2 9 r.1).map fun q => (q, σ)
    | none => none
    else none
@[simp] theorem cz_false (cf : CF) : cz false cf = cf := rfl
theorem cz_true (cf : CF) (p : PV) (args : List PV) (σ : List AObj) : cz true cf p args σ = if PV.bels 0 (p :: args) = true then match cf p args [] with
    | some r => (dfr r.2 9 r.1).map fun q => (q, σ)
    | none => none
    else none := rfl
abbrev RT := List PV → List AObj → List DIn → List Nat → Bool

def exitK (id : Nat) : List KI → Option (List KI)
  | [] => none
  | .inBlock id' :: ks => if id' = id then some ks else exitK id ks
  | .code _ :: ks => exitK id ks
  | .ins _ :: ks => exitK id ks
  | .dins _ _ :: ks => exitK id ks
  | .gh _ :: ks => exitK id ks

/-- The same, or nothing. -/
noncomputable def agree {α : Type} (x y : Option α) : Option α := by classical exact if x = y then x else none
theorem agree_some {α : Type} {x y : Option α} {r : α} : agree x y = some r ↔ x = some r ∧ y = some r := by
  classical
  unfold agree
  constructor
  · intro h
    split at h
    · rename_i e; subst e; exact ⟨h, h⟩
    · cases h
  · rintro ⟨rfl, rfl⟩; rw [if_pos rfl]
@[simp] theorem agree_self {α : Type} (x : Option α) : agree x x = x := by
  classical
  unfold agree; rw [if_pos rfl]
/-- The frame and the state behind the code; none: not told. N: the slots; n0: the objects at the beginning. -/
noncomputable def runN (rt : RT) (cf : CF) (N n0 : Nat) : Nat → List KI → Fr → List AObj → Option (Fr × List AObj)
  | 0, _, _, _ => none
  | _ + 1, [], l, σ => some (l, σ)
  | n + 1, .inBlock _ :: ks, l, σ => runN rt cf N n0 n ks l σ
  | n + 1, .ins [] :: ks, l, σ => runN rt cf N n0 n ks l σ
  | n + 1, .ins (x :: xs) :: ks, l, σ => match guardA (dn N l) x.g with
    | some true => match x.s with
      | .op i => match ai (dn N l) σ i with
        | some r => runN rt cf N n0 n (.ins xs :: ks) (putD l x.dst r.1) r.2
        | none => match ai2 (dn N l) σ i with
          | some q => agree (runN rt cf N n0 n (.ins xs :: ks) (putD l x.dst q.1.1) q.1.2) (runN rt cf N n0 n (.ins xs :: ks) (putD l x.dst q.2.1) q.2.2)
          | none => none
      | .call f args z => match cz z cf (aev (dn N l) f) (args.map (aev (dn N l))) σ with
        | some r => runN rt cf N n0 n (.ins xs :: ks) (putD l x.dst r.1) r.2
        | none => none
    | some false => runN rt cf N n0 n (.ins xs :: ks) (kilD l x.dst) σ
    | none => none
  | n + 1, .dins [] _ :: ks, l, σ => runN rt cf N n0 n ks l σ
  | n + 1, .dins (d :: ds) h :: ks, l, σ => match guardA (dn N l) d.x.g with
    | some true => match d.x.s with
      | .op i => match ai (dn N l) σ i with
        | some r => if !i.eff || rt (dn N l) r.2 h d.rc then runN rt cf N n0 n (.dins ds (d :: h) :: ks) (putD l d.x.dst r.1) r.2 else none
        | none => none
      | .call f args z => match cz z cf (aev (dn N l) f) (args.map (aev (dn N l))) σ with
        | some r => if rt (dn N l) r.2 h d.rc then runN rt cf N n0 n (.dins ds (d :: h) :: ks) (putD l d.x.dst r.1) r.2 else none
        | none => none
    | some false => runN rt cf N n0 n (.dins ds (d :: h) :: ks) (kilD l d.x.dst) σ
    | none => none
  | n + 1, .code .skip :: ks, l, σ => runN rt cf N n0 n ks l σ
  | n + 1, .code (.seq a b) :: ks, l, σ => runN rt cf N n0 n (.code a :: .code b :: ks) l σ
  | n + 1, .code (.cond c t e) :: ks, l, σ => match aev (dn N l) c with
    | .val (.bool b) => if b = true then runN rt cf N n0 n (.code t :: ks) l σ else runN rt cf N n0 n (.code e :: ks) l σ
    | _ => none
  | n + 1, .code (.block id a) :: ks, l, σ => runN rt cf N n0 n (.code a :: .inBlock id :: ks) l σ
  | n + 1, .code (.loop a) :: ks, l, σ => runN rt cf N n0 n (.code a :: .code (.loop a) :: ks) l σ
  | n + 1, .code (.exit id) :: ks, l, σ => match exitK id ks with
    | some ks' => runN rt cf N n0 n ks' l σ
    | none => none
  | n + 1, .code .ret :: ks, l, σ => some (l, σ)
  | n + 1, .code (.reg xs) :: ks, l, σ => runN rt cf N n0 n (.ins xs :: ks) l σ
  | n + 1, .code (.draw ds _) :: ks, l, σ => runN rt cf N n0 n (.dins ds [] :: ks) l σ
  | n + 1, .gh g :: ks, l, σ => match evG n0 l σ g with
    | some r => runN rt cf N n0 n ks r.1 r.2
    | none => none
  | n + 1, .code (.post a g) :: ks, l, σ => runN rt cf N n0 n (.code a :: .gh g :: ks) l σ
  | n + 1, .code (.ghost g a) :: ks, l, σ => match evG n0 l σ g with
    | some r => runN rt cf N n0 n (.code a :: ks) r.1 r.2
    | none => none

section
variable {P : Program} {rt : RT} {cf : CF} {N n0 : Nat}

def KPost (rt : RT) (cf : CF) (N n0 n : Nat) (ks : List KI) (r : Fr × List AObj) : Post
  | .normal, fr, σ => ∃ m l, m ≤ n ∧ fr = dn N l ∧ runN rt cf N n0 m ks l σ = some r
  | .exit id, fr, σ => ∃ ks' m l, exitK id ks = some ks' ∧ m ≤ n ∧ fr = dn N l ∧ runN rt cf N n0 m ks' l σ = some r
  | .ret, fr, σ => fr = dn N r.1 ∧ σ = r.2

theorem KPost.mono {n n' : Nat} (h : n ≤ n') {ks : List KI} {r : Fr × List AObj} {x : X} {fr : List PV} {σ : List AObj} (k : KPost rt cf N n0 n ks r x fr σ) : KPost rt cf N n0 n' ks r x fr σ := by
  cases x with
  | normal => obtain ⟨m, l, h1, h2, h3⟩ := k; exact ⟨m, l, by omega, h2, h3⟩
  | exit id => obtain ⟨ks', m, l, h0, h1, h2, h3⟩ := k; exact ⟨ks', m, l, h0, by omega, h2, h3⟩
  | ret => exact k

theorem ASeq.mono {K K' : List PV → List AObj → Prop} (hk : ∀ fr σ, K fr σ → K' fr σ) : ∀ {xs : List AIn} {fr : List PV} {σ : List AObj}, ASeq P xs K fr σ → ASeq P xs K' fr σ
  | [], fr, σ, h => hk fr σ h
  | x :: xs, fr, σ, h => by
    simp only [ASeq] at h ⊢
    split at h
    · split at h
      · split at h
        · exact ASeq.mono hk h
        · split at h
          · exact ⟨ASeq.mono hk h.1, ASeq.mono hk h.2⟩
          · exact h.elim
      · rename_i f args _
        unfold ACallV at h ⊢
        split at h
        · exact ⟨h.1, h.2.1, h.2.2.1, h.2.2.2.mono fun p σ h => ASeq.mono hk h⟩
        · exact ⟨h.1, h.2.mono fun p σ h => ASeq.mono hk h⟩
        · exact h.elim
    · exact ASeq.mono hk h
    · exact h.elim

theorem ACallV.mono {p : PV} {args : List PV} {σ : List AObj} {Q Q' : PV → List AObj → Prop} (h : ACallV P p args σ Q) (k : ∀ p σ, Q p σ → Q' p σ) : ACallV P p args σ Q' := by
  unfold ACallV at h ⊢
  split at h
  · exact ⟨h.1, h.2.1, h.2.2.1, h.2.2.2.mono k⟩
  · exact ⟨h.1, h.2.mono k⟩
  · exact h.elim

/-- The calls that are told are right. -/
def CfOk (P : Program) (cf : CF) : Prop := ∀ p args σ r, cf p args σ = some r → ACallV P p args σ fun q τ => q = r.1 ∧ τ = r.2
theorem ACall_frozS {P : Program} {f : FuncId} {args : List PV} {r : PV × List AObj} {q : PV} (σ : List AObj) (h : ACall P f args [] fun q τ => q = r.1 ∧ τ = r.2) (hd : dfr r.2 9 r.1 = some q) (hb : PV.bels 0 args = true) : ACall P f args σ fun q' τ => q' = q ∧ τ = σ := by
  have h1 : ACall P f args [] fun q' τ => q' = q ∧ τ = [] := by
    intro g vs hg hst hr
    refine (h g vs hg hst hr).mono ?_
    rintro e w' ⟨v, p, σ', ρ', rfl, h1, h2, h3, rfl, rfl⟩
    refine ⟨v, q, [], [], rfl, St.empty fun b hb => Nat.lt_of_lt_of_le (hst.hid.1 b hb) h2.size, ⟨rfl, h2.os, h2.tape, h2.output, h2.size, h2.block, fun i b hi => by simp at hi, fun i sz es ver ho => by rw [hg] at ho; simp at ho⟩, dfr_sound h1 h3 hd, rfl, rfl⟩
  refine (ACall_lend (full := true) h1 (by simp [hb]) (by simp)).mono ?_
  rintro p τ ⟨q', τ', ⟨rfl, rfl⟩, rfl, rfl⟩
  exact ⟨PV.sh_bel0 _ (dfr_bel hd), by simp⟩
theorem cz_ok {P : Program} {cf : CF} (h : CfOk P cf) (z : Bool) : CfOk P (cz z cf) := by
  intro p args σ r hr
  cases z with
  | false => exact h _ _ _ _ hr
  | true =>
    rw [cz_true] at hr
    split at hr
    · rename_i hb
      simp only [PV.bels, Bool.and_eq_true] at hb
      split at hr
      · rename_i r0 h0
        rw [Option.map_eq_some_iff] at hr
        obtain ⟨q, hd, rfl⟩ := hr
        have k := h _ _ _ _ h0
        unfold ACallV at k ⊢
        split at k
        · exact ⟨k.1, k.2.1, k.2.2.1, ACall_frozS σ k.2.2.2 hd hb.2⟩
        · rename_i f caps
          refine ⟨k.1, ACall_frozS σ k.2 hd ?_⟩
          have hc : PV.bels 0 caps = true := by simpa [PV.bel] using hb.1
          have happ : ∀ a : List PV, PV.bels 0 a = true → PV.bels 0 (a ++ caps) = true := by
            intro a
            induction a with
            | nil => intro _; exact hc
            | cons x a ih => intro hx; simp only [PV.bels, Bool.and_eq_true] at hx; simp only [List.cons_append, PV.bels, Bool.and_eq_true]; exact ⟨hx.1, ih hx.2⟩
          exact happ args hb.2
        · exact k.elim
      · cases hr
    · cases hr
/-- What is frozen where it is called is so in every state. -/
theorem cz_all {P : Program} {cf : CF} (h : CfOk P cf) {p : PV} {args : List PV} {σ : List AObj} {r : PV × List AObj} (hr : cz true cf p args σ = some r) : r.2 = σ ∧ ∀ τ, ACallV P p args τ fun q τ' => q = r.1 ∧ τ' = τ := by
  rw [cz_true] at hr
  split at hr
  · rename_i hb
    simp only [PV.bels, Bool.and_eq_true] at hb
    split at hr
    · rename_i r0 h0
      rw [Option.map_eq_some_iff] at hr
      obtain ⟨q, hd, rfl⟩ := hr
      refine ⟨rfl, fun τ => ?_⟩
      have k := h _ _ _ _ h0
      unfold ACallV at k ⊢
      split at k
      · exact ⟨k.1, k.2.1, k.2.2.1, ACall_frozS τ k.2.2.2 hd hb.2⟩
      · rename_i f caps
        refine ⟨k.1, ACall_frozS τ k.2 hd ?_⟩
        have hc : PV.bels 0 caps = true := by simpa [PV.bel] using hb.1
        have happ : ∀ a : List PV, PV.bels 0 a = true → PV.bels 0 (a ++ caps) = true := by
          intro a
          induction a with
          | nil => intro _; exact hc
          | cons x a ih => intro hx; simp only [PV.bels, Bool.and_eq_true] at hx; simp only [List.cons_append, PV.bels, Bool.and_eq_true]; exact ⟨hx.1, ih hx.2⟩
        exact happ args hb.2
      · exact k.elim
    · cases hr
  · cases hr
def RtOk (rt : RT) : Prop := ∀ fr σ h rc, rt fr σ h rc = true → rcs fr σ h rc

theorem ins_run (hcf : CfOk P cf) : ∀ (xs : List AIn) {n : Nat} {ks : List KI} {l : Fr} {σ : List AObj} {r : Fr × List AObj}, runN rt cf N n0 n (.ins xs :: ks) l σ = some r → ASeq P xs (KPost rt cf N n0 n ks r .normal) (dn N l) σ
  | xs, 0, ks, l, σ, r, h => by simp [runN] at h
  | [], n + 1, ks, l, σ, r, h => by
    simp only [runN] at h
    exact ⟨n, l, by omega, rfl, h⟩
  | x :: xs, n + 1, ks, l, σ, r, h => by
    simp only [runN] at h
    simp only [ASeq]
    split at h
    · rename_i hg
      rw [hg]
      split at h
      · rename_i i hi
        rw [hi]
        split at h
        · rename_i q hq
          simp only [hq]
          rw [setD_dn]
          exact (ins_run hcf xs h).mono fun fr σ => KPost.mono (x := .normal) (Nat.le_succ n)
        · rename_i hq
          simp only [hq]
          split at h
          · rename_i q hq2
            simp only [hq2]
            obtain ⟨ha, hb⟩ := agree_some.1 h
            rw [setD_dn, setD_dn]
            exact ⟨(ins_run hcf xs ha).mono fun fr σ => KPost.mono (x := .normal) (Nat.le_succ n), (ins_run hcf xs hb).mono fun fr σ => KPost.mono (x := .normal) (Nat.le_succ n)⟩
          · cases h
      · rename_i f args z hi
        rw [hi]
        split at h
        · rename_i q hq
          refine (cz_ok hcf z _ _ _ _ hq).mono ?_
          rintro p τ ⟨rfl, rfl⟩
          rw [setD_dn]
          exact (ins_run hcf xs h).mono fun fr σ => KPost.mono (x := .normal) (Nat.le_succ n)
        · cases h
    · rename_i hg
      rw [hg]
      simp only
      rw [setD_dn_any]
      exact (ins_run hcf xs h).mono fun fr σ => KPost.mono (x := .normal) (Nat.le_succ n)
    · cases h

theorem ADSeq.mono {K K' : List PV → List AObj → Prop} (hk : ∀ fr σ, K fr σ → K' fr σ) : ∀ {ds h : List DIn} {fr : List PV} {σ : List AObj}, ADSeq P ds h K fr σ → ADSeq P ds h K' fr σ
  | [], _, fr, σ, h => hk fr σ h
  | x :: xs, _, fr, σ, h => by
    simp only [ADSeq] at h ⊢
    split at h
    · split at h
      · split at h
        · exact ⟨h.1, ADSeq.mono hk h.2⟩
        · exact h.elim
      · exact h.mono fun p σ h => ⟨h.1, ADSeq.mono hk h.2⟩
      · obtain ⟨v, h1, h2⟩ := h
        exact ⟨v, h1, ADSeq.mono hk h2⟩
    · exact ADSeq.mono hk h
    · exact h.elim

theorem dins_run (hcf : CfOk P cf) (hrt : RtOk rt) : ∀ (ds : List DIn) {hh : List DIn} {n : Nat} {ks : List KI} {l : Fr} {σ : List AObj} {r : Fr × List AObj}, runN rt cf N n0 n (.dins ds hh :: ks) l σ = some r → ADSeq P ds hh (KPost rt cf N n0 n ks r .normal) (dn N l) σ
  | xs, hh, 0, ks, l, σ, r, h => by simp [runN] at h
  | [], hh, n + 1, ks, l, σ, r, h => by
    simp only [runN] at h
    exact ⟨n, l, by omega, rfl, h⟩
  | x :: xs, hh, n + 1, ks, l, σ, r, h => by
    simp only [runN] at h
    simp only [ADSeq]
    split at h
    · rename_i hg
      rw [hg]
      split at h
      · rename_i i hi
        rw [hi]
        split at h
        · rename_i q hq
          simp only [hq]
          split at h
          · rename_i hc
            refine ⟨?_, ?_⟩
            · split
              · rename_i he
                rw [he] at hc
                exact hrt _ _ _ _ (by simpa using hc)
              · trivial
            · rw [setD_dn]
              exact (dins_run hcf hrt xs h).mono fun fr σ => KPost.mono (x := .normal) (Nat.le_succ n)
          · cases h
        · cases h
      · rename_i f args z hi
        rw [hi]
        split at h
        · rename_i q hq
          split at h
          · rename_i hc
            cases z with
            | false =>
              refine (cz_ok hcf false _ _ _ _ hq).mono ?_
              rintro p τ ⟨rfl, rfl⟩
              refine ⟨hrt _ _ _ _ hc, ?_⟩
              rw [setD_dn]
              exact (dins_run hcf hrt xs h).mono fun fr σ => KPost.mono (x := .normal) (Nat.le_succ n)
            | true =>
              obtain ⟨e1, e2⟩ := cz_all hcf hq
              refine ⟨q.1, e2, ?_⟩
              rw [setD_dn]
              have h' := (dins_run hcf hrt xs h).mono fun fr σ => KPost.mono (x := .normal) (Nat.le_succ n)
              rw [e1] at h'
              exact h'
          · cases h
        · cases h
    · rename_i hg
      rw [hg]
      simp only
      rw [setD_dn_any]
      exact (dins_run hcf hrt xs h).mono fun fr σ => KPost.mono (x := .normal) (Nat.le_succ n)
    · cases h

theorem run_sound (hm : P.follows .mixedOrders = true) (hcf : CfOk P cf) (hrt : RtOk rt) : ∀ (n : Nat) {c : AC} {ks : List KI} {l : Fr} {σ : List AObj} {r : Fr × List AObj}, runN rt cf N n0 n (.code c :: ks) l σ = some r → AE P n0 c (KPost rt cf N n0 n ks r) (dn N l) σ := by
  intro n
  induction n using Nat.strongRecOn with
  | ind n ih =>
    intro c ks l σ r h
    cases n with
    | zero => simp [runN] at h
    | succ n =>
      -- a kont that is code: what it is to end before it
      have before : ∀ {a b : AC} {Q : Post}, (∀ {m : Nat} {l : Fr} {σ : List AObj}, m ≤ n → runN rt cf N n0 m (.code b :: ks) l σ = some r → AE P n0 b Q (dn N l) σ) → (∀ x fr σ, KPost rt cf N n0 (n + 1) ks r x fr σ → Q x fr σ) →
          runN rt cf N n0 n (.code a :: .code b :: ks) l σ = some r → AE P n0 a (thenA (AE P n0 b Q) Q) (dn N l) σ := by
        intro a b Q hb hQ h
        refine (ih n (by omega) h).mono fun x fr σ hx => ?_
        cases x with
        | normal => obtain ⟨m, l, h1, rfl, h3⟩ := hx; exact hb h1 h3
        | exit id => obtain ⟨ks', m, l, h0, h1, h2, h3⟩ := hx; exact hQ (.exit id) _ _ ⟨ks', m, l, by simpa [exitK] using h0, by omega, h2, h3⟩
        | ret => exact hQ .ret _ _ hx
      cases c with
      | skip => simp only [runN] at h; exact AE_skip ⟨n, l, by omega, rfl, h⟩
      | seq a b =>
        simp only [runN] at h
        exact AE_seq (before (fun hm' h' => (ih _ (by omega) h').mono fun x fr σ => KPost.mono (by omega)) (fun _ _ _ h => h) h)
      | cond c t e =>
        simp only [runN] at h
        split at h
        · rename_i b hb
          refine AE_cond hb (fun e1 => ?_) (fun e1 => ?_)
          · rw [if_pos e1] at h; exact (ih n (by omega) h).mono fun x fr σ => KPost.mono (by omega)
          · rw [if_neg (by rw [e1]; simp)] at h; exact (ih n (by omega) h).mono fun x fr σ => KPost.mono (by omega)
        · cases h
      | block id a =>
        simp only [runN] at h
        refine AE_block ((ih n (by omega) h).mono fun x fr σ hx => ?_)
        cases x with
        | normal =>
          obtain ⟨m, l, h1, rfl, h3⟩ := hx
          cases m with
          | zero => simp [runN] at h3
          | succ m => simp only [runN] at h3; exact ⟨m, l, by omega, rfl, h3⟩
        | exit id' =>
          obtain ⟨ks', m, l, h0, h1, rfl, h3⟩ := hx
          simp only [exitK] at h0
          simp only [blockA]
          split at h0
          · rename_i e
            injection h0 with h0; subst h0
            rw [if_pos e.symm]
            exact ⟨m, l, by omega, rfl, h3⟩
          · rename_i e
            rw [if_neg (fun h => e h.symm)]
            exact ⟨ks', m, l, h0, by omega, rfl, h3⟩
        | ret => exact hx
      | loop a =>
        simp only [runN] at h
        exact AE_loop (before (fun hm' h' => (ih _ (by omega) h').mono fun x fr σ => KPost.mono (by omega)) (fun _ _ _ h => h) h)
      | exit id =>
        simp only [runN] at h
        split at h
        · rename_i ks' hk; exact AE_exit ⟨ks', n, l, hk, by omega, rfl, h⟩
        · cases h
      | ret =>
        simp only [runN, Option.some.injEq] at h
        subst h
        exact AE_ret ⟨rfl, rfl⟩
      | reg xs => simp only [runN] at h; exact AE_reg ((ins_run hcf xs h).mono fun fr σ => KPost.mono (x := .normal) (by omega))
      | draw ds ms => simp only [runN] at h; exact AE_draw hm ((dins_run hcf hrt ds h).mono fun fr σ => KPost.mono (x := .normal) (by omega))
      | post a g =>
        simp only [runN] at h
        refine AE_post ((ih n (by omega) h).mono fun x fr σ hx => ?_)
        cases x with
        | normal =>
          obtain ⟨m, l, h1, rfl, h3⟩ := hx
          cases m with
          | zero => simp [runN] at h3
          | succ m =>
            simp only [runN] at h3
            split at h3
            · rename_i q hq
              exact ⟨_, _, evG_sound (l' := q.1) (σ' := q.2) (by rw [hq]), m, q.1, by omega, rfl, h3⟩
            · cases h3
        | exit id => obtain ⟨ks', m, l, h0, h1, h2, h3⟩ := hx; exact ⟨ks', m, l, by simpa [exitK] using h0, by omega, h2, h3⟩
        | ret => exact hx
      | ghost g a =>
        simp only [runN] at h
        split at h
        · rename_i q hq
          exact AE_ghost (evG_sound (l' := q.1) (σ' := q.2) (by rw [hq])) ((ih n (by omega) h).mono fun x fr σ => KPost.mono (by omega))
        · cases h
end

end Aw
end Go.Proofs.Ytoliadfdklfmfaa
