/- The evaluator without fuel: what a function's body comes to; the equations. -/
import Derived.Test.YtoliadfdklfmfaaAw25
set_option linter.unusedVariables false
set_option linter.unusedSimpArgs false
namespace Go.Proofs.Ytoliadfdklfmfaa
namespace Aw

/-- What a chain of partial answers comes to. -/
noncomputable def lim {β : Type} (s : Nat → Option β) : Option β := by
  classical exact if h : ∃ n r, s n = some r then some (Classical.choose (Classical.choose_spec h)) else none
def Chain {β : Type} (s : Nat → Option β) : Prop := ∀ n r, s n = some r → s (n + 1) = some r
theorem Chain.le {β : Type} {s : Nat → Option β} (h : Chain s) {n m : Nat} (hn : n ≤ m) {r : β} (k : s n = some r) : s m = some r := by
  induction hn with
  | refl => exact k
  | step _ ih => exact h _ _ ih
theorem lim_eq {β : Type} {s : Nat → Option β} (h : Chain s) {r : β} : lim s = some r ↔ ∃ n, s n = some r := by
  classical
  unfold lim
  constructor
  · intro k
    split at k
    · rename_i hh
      injection k with k
      exact ⟨_, by rw [← k]; exact Classical.choose_spec (Classical.choose_spec hh)⟩
    · cases k
  · rintro ⟨n, hn⟩
    have hh : ∃ n r, s n = some r := ⟨n, r, hn⟩
    rw [dif_pos hh]
    congr 1
    have k := Classical.choose_spec (Classical.choose_spec hh)
    have a := h.le (Nat.le_max_left n (Classical.choose hh)) hn
    have b := h.le (Nat.le_max_right n (Classical.choose hh)) k
    rw [a] at b; injection b with b; exact b.symm

/-- cf' tells all that cf tells. -/
def CfLe (cf cf' : CF) : Prop := ∀ p args σ r, cf p args σ = some r → cf' p args σ = some r

def RtLe (rt rt' : RT) : Prop := ∀ fr σ h rc, rt fr σ h rc = true → rt' fr σ h rc = true
theorem cz_mono {cf cf' : CF} (h : CfLe cf cf') (z : Bool) : CfLe (cz z cf) (cz z cf') := by
  intro p args σ r k
  cases z with
  | false => exact h _ _ _ _ k
  | true =>
    rw [cz_true] at k ⊢
    split at k
    · rename_i hb
      rw [if_pos hb]
      split at k
      · rename_i r0 h0; rw [h _ _ _ _ h0]; exact k
      · cases k
    · cases k
theorem runN_mono {rt rt' : RT} {cf cf' : CF} {N n0 : Nat} (hrt : RtLe rt rt') (hc : CfLe cf cf') : ∀ {n m : Nat} {ks : List KI} {l : Fr} {σ : List AObj} {r : Fr × List AObj}, n ≤ m → runN rt cf N n0 n ks l σ = some r → runN rt' cf' N n0 m ks l σ = some r := by
  intro n
  induction n with
  | zero => intro m ks l σ r _ h; simp [runN] at h
  | succ n ih =>
    intro m ks l σ r hm h
    cases m with
    | zero => omega
    | succ m =>
      have hm : n ≤ m := by omega
      match ks with
      | [] => simpa [runN] using h
      | .inBlock _ :: ks => simp only [runN] at h ⊢; exact ih hm h
      | .ins [] :: ks => simp only [runN] at h ⊢; exact ih hm h
      | .gh g :: ks =>
        simp only [runN] at h ⊢
        cases hk : evG n0 l σ g with
        | none => rw [hk] at h; cases h
        | some q => rw [hk] at h; exact ih hm h
      | .dins [] _ :: ks => simp only [runN] at h ⊢; exact ih hm h
      | .ins (x :: xs) :: ks =>
        simp only [runN] at h ⊢
        cases hg : guardA (dn N l) x.g with
        | none => rw [hg] at h; cases h
        | some b =>
          rw [hg] at h
          cases b with
          | false => exact ih hm h
          | true =>
            simp only at h ⊢
            cases hs : x.s with
            | op i =>
              rw [hs] at h
              simp only at h ⊢
              cases ha : ai (dn N l) σ i with
              | none =>
                rw [ha] at h
                simp only at h ⊢
                cases h2 : ai2 (dn N l) σ i with
                | none => rw [h2] at h; cases h
                | some q =>
                  rw [h2] at h
                  simp only at h ⊢
                  obtain ⟨k1, k2⟩ := agree_some.1 h
                  exact agree_some.2 ⟨ih hm k1, ih hm k2⟩
              | some q => rw [ha] at h; exact ih hm h
            | call f args z =>
              rw [hs] at h
              simp only at h ⊢
              cases ha : cz z cf (aev (dn N l) f) (args.map (aev (dn N l))) σ with
              | none => rw [ha] at h; cases h
              | some q => rw [ha] at h; rw [cz_mono hc z _ _ _ _ ha]; exact ih hm h
      | .dins (d :: ds) hh :: ks =>
        simp only [runN] at h ⊢
        cases hg : guardA (dn N l) d.x.g with
        | none => rw [hg] at h; cases h
        | some b =>
          rw [hg] at h
          cases b with
          | false => exact ih hm h
          | true =>
            simp only at h ⊢
            cases hs : d.x.s with
            | op i =>
              rw [hs] at h
              simp only at h ⊢
              cases ha : ai (dn N l) σ i with
              | none => rw [ha] at h; cases h
              | some q =>
                rw [ha] at h
                simp only at h ⊢
                split at h
                · rename_i hr
                  have hr' : (!i.eff || rt' (dn N l) q.2 hh d.rc) = true := by
                    cases he : i.eff with
                    | false => rfl
                    | true => rw [he] at hr; simpa using hrt _ _ _ _ (by simpa using hr)
                  rw [if_pos hr']; exact ih hm h
                · cases h
            | call f args z =>
              rw [hs] at h
              simp only at h ⊢
              cases ha : cz z cf (aev (dn N l) f) (args.map (aev (dn N l))) σ with
              | none => rw [ha] at h; cases h
              | some q =>
                rw [ha] at h; rw [cz_mono hc z _ _ _ _ ha]
                simp only at h ⊢
                split at h
                · rename_i hr; rw [if_pos (hrt _ _ _ _ hr)]; exact ih hm h
                · cases h
      | .code c :: ks =>
        cases c with
        | ret => simpa [runN] using h
        | cond c t e =>
          simp only [runN] at h ⊢
          split at h
          · split at h <;> rename_i hb <;> simp only [hb, if_true, if_false, Bool.false_eq_true] <;> exact ih hm h
          · cases h
        | exit id =>
          simp only [runN] at h ⊢
          cases hk : exitK id ks with
          | none => rw [hk] at h; cases h
          | some ks' => rw [hk] at h; exact ih hm h
        | ghost g a =>
          simp only [runN] at h ⊢
          cases hk : evG n0 l σ g with
          | none => rw [hk] at h; cases h
          | some q => rw [hk] at h; exact ih hm h
        | skip => simp only [runN] at h ⊢; exact ih hm h
        | seq a b => simp only [runN] at h ⊢; exact ih hm h
        | post a g => simp only [runN] at h ⊢; exact ih hm h
        | block id a => simp only [runN] at h ⊢; exact ih hm h
        | loop a => simp only [runN] at h ⊢; exact ih hm h
        | reg xs => simp only [runN] at h ⊢; exact ih hm h
        | draw ds ms => simp only [runN] at h ⊢; exact ih hm h

theorem RtLe.refl (rt : RT) : RtLe rt rt := fun _ _ _ _ h => h
theorem CfLe.refl (cf : CF) : CfLe cf cf := fun _ _ _ _ h => h
abbrev EF := FuncId → List PV → List AObj → Option (PV × List AObj)
def EfLe (e e' : EF) : Prop := ∀ f args σ r, e f args σ = some r → e' f args σ = some r
theorem callM_mono {fns : Fns} {e e' : EF} (h : EfLe e e') {f : FuncId} {args : List PV} {σ : List AObj} {r : PV × List AObj} (k : callM fns e f args σ = some r) : callM fns e' f args σ = some r := by
  unfold callM at k ⊢
  cases hf : fns f with
  | none => rw [hf] at k; cases k
  | some a =>
    rw [hf] at k
    simp only at k ⊢
    split at k
    · rename_i hp; rw [if_pos hp]; exact h _ _ _ _ k
    · rename_i hp; rw [if_neg hp]
      split at k
      · rename_i hb; rw [if_pos hb]
        simp only [Option.map_eq_some_iff] at k ⊢
        obtain ⟨q, h1, h2⟩ := k
        exact ⟨q, h _ _ _ _ h1, h2⟩
      · rename_i hb; rw [if_neg hb]
        cases hm : mapO (dfr σ 9) args with
        | none => rw [hm] at k; cases k
        | some args' =>
          rw [hm] at k
          simp only at k ⊢
          cases he : e f (PV.tys a.ats args') [] with
          | none => rw [he] at k; cases k
          | some q => rw [he] at k; rw [h _ _ _ _ he]; exact k
theorem callV_mono {fns : Fns} {e e' : EF} (h : EfLe e e') : CfLe (callV fns e) (callV fns e') := by
  intro p args σ r k
  unfold callV at k ⊢
  split at k
  · split at k
    · rename_i hc; rw [if_pos hc]; exact callM_mono h k
    · cases k
  · exact callM_mono h k
  · cases k
theorem evN_mono {fns : Fns} {rt rt' : RT} (hrt : RtLe rt rt') : ∀ {n m : Nat}, n ≤ m → EfLe (evN fns rt n) (evN fns rt' m) := by
  intro n
  induction n with
  | zero => intro m _ f args σ r h; simp [evN] at h
  | succ n ih =>
    intro m hm f args σ r h
    cases m with
    | zero => omega
    | succ m =>
      simp only [evN] at h ⊢
      cases hf : fns f with
      | none => rw [hf] at h; cases h
      | some a =>
        rw [hf] at h
        simp only at h ⊢
        cases hsp : a.sp with
        | some g => rw [hsp] at h; exact h
        | none =>
        rw [hsp] at h
        simp only at h ⊢
        split at h
        · rename_i hl
          rw [if_pos hl]
          rw [Option.bind_eq_some_iff] at h ⊢
          obtain ⟨q, h1, h2⟩ := h
          exact ⟨q, runN_mono hrt (callV_mono (ih (by omega))) (by omega) h1, h2⟩
        · cases h

/-- The test of what is asked again, as a proposition. -/
noncomputable def rtC : RT := fun fr σ h rc => @decide (rcs fr σ h rc) (Classical.propDecidable _)
theorem rtC_iff {fr : List PV} {σ : List AObj} {h : List DIn} {rc : List Nat} : rtC fr σ h rc = true ↔ rcs fr σ h rc := by simp [rtC]
theorem rtC_ok : RtOk rtC := fun fr σ h rc k => rtC_iff.1 k
theorem rtB_le : RtLe rtB rtC := fun fr σ h rc k => rtC_iff.2 (rtB_ok fr σ h rc k)

/-- Functions, evaluated. -/
noncomputable def ev (fns : Fns) : EF := fun f args σ => lim fun n => evN fns rtC n f args σ
theorem ev_eq {fns : Fns} {f : FuncId} {args : List PV} {σ : List AObj} {r : PV × List AObj} : ev fns f args σ = some r ↔ ∃ n, evN fns rtC n f args σ = some r :=
  lim_eq fun n r h => evN_mono (RtLe.refl _) (Nat.le_succ n) _ _ _ _ h
/-- Code, evaluated. -/
noncomputable def run (fns : Fns) (N n0 : Nat) (ks : List KI) (l : Fr) (σ : List AObj) : Option (Fr × List AObj) := lim fun n => runN rtC (callV fns (ev fns)) N n0 n ks l σ
theorem run_eq {fns : Fns} {N n0 : Nat} {ks : List KI} {l : Fr} {σ : List AObj} {r : Fr × List AObj} : run fns N n0 ks l σ = some r ↔ ∃ n, runN rtC (callV fns (ev fns)) N n0 n ks l σ = some r :=
  lim_eq fun n r h => runN_mono (RtLe.refl _) (CfLe.refl _) (Nat.le_succ n) h

/-- What is told of a kernel run. -/
theorem ev_of_evF {fns : Fns} {n : Nat} {f : FuncId} {args : List PV} {σ : List AObj} {r : PV × List AObj} (h : evF fns rtB n f args σ = some r) : ev fns f args σ = some r := by
  rw [evF_eq] at h
  exact ev_eq.2 ⟨n, evN_mono rtB_le (Nat.le_refl n) _ _ _ _ h⟩
theorem ev_sound {P : Program} {fns : Fns} (hm : P.follows .mixedOrders = true) (hf : FnsOk P fns) {f : FuncId} {args : List PV} {σ : List AObj} {r : PV × List AObj} (h : ev fns f args σ = some r) : Gets P f args σ r :=
  let ⟨n, hn⟩ := ev_eq.1 h
  evN_sound hm hf rtC_ok n f args σ r hn

end Aw
end Go.Proofs.Ytoliadfdklfmfaa

set_option linter.unusedVariables false
set_option linter.unusedSimpArgs false
namespace Go.Proofs.Ytoliadfdklfmfaa
namespace Aw

theorem cz_compact {cf : CF} {cfs : Nat → CF} (hc : ∀ p args σ r, cf p args σ = some r → ∃ m, cfs m p args σ = some r) (z : Bool) : ∀ p args σ r, cz z cf p args σ = some r → ∃ m, cz z (cfs m) p args σ = some r := by
  intro p args σ r k
  cases z with
  | false => exact hc _ _ _ _ k
  | true =>
    rw [cz_true] at k
    split at k
    · rename_i hb
      split at k
      · rename_i r0 h0
        obtain ⟨m, hm⟩ := hc _ _ _ _ h0
        exact ⟨m, by rw [cz_true, if_pos hb, hm]; exact k⟩
      · cases k
    · cases k
theorem runN_compact {rt : RT} {cf : CF} {cfs : Nat → CF} {N n0 : Nat} (hc : ∀ p args σ r, cf p args σ = some r → ∃ m, cfs m p args σ = some r) (hm : ∀ m m', m ≤ m' → CfLe (cfs m) (cfs m')) :
    ∀ {n : Nat} {ks : List KI} {l : Fr} {σ : List AObj} {r : Fr × List AObj}, runN rt cf N n0 n ks l σ = some r → ∃ m, runN rt (cfs m) N n0 n ks l σ = some r := by
  intro n
  induction n with
  | zero => intro ks l σ r h; simp [runN] at h
  | succ n ih =>
    intro ks l σ r h
    match ks with
    | [] => exact ⟨0, by simpa [runN] using h⟩
    | .inBlock _ :: ks => simp only [runN] at h ⊢; exact ih h
    | .ins [] :: ks => simp only [runN] at h ⊢; exact ih h
    | .gh g :: ks =>
      simp only [runN] at h ⊢
      cases hk : evG n0 l σ g with
      | none => rw [hk] at h; cases h
      | some q => rw [hk] at h; exact ih h
    | .dins [] _ :: ks => simp only [runN] at h ⊢; exact ih h
    | .ins (x :: xs) :: ks =>
      simp only [runN] at h ⊢
      cases hg : guardA (dn N l) x.g with
      | none => rw [hg] at h; cases h
      | some b =>
        rw [hg] at h
        cases b with
        | false => exact ih h
        | true =>
          simp only at h ⊢
          cases hs : x.s with
          | op i =>
            rw [hs] at h
            simp only at h ⊢
            cases ha : ai (dn N l) σ i with
            | none =>
              rw [ha] at h
              simp only at h ⊢
              cases h2 : ai2 (dn N l) σ i with
              | none => rw [h2] at h; cases h
              | some q =>
                rw [h2] at h
                simp only at h ⊢
                obtain ⟨k1, k2⟩ := agree_some.1 h
                obtain ⟨m1, e1⟩ := ih k1
                obtain ⟨m2, e2⟩ := ih k2
                exact ⟨max m1 m2, agree_some.2 ⟨runN_mono (RtLe.refl _) (hm _ _ (Nat.le_max_left m1 m2)) (Nat.le_refl _) e1, runN_mono (RtLe.refl _) (hm _ _ (Nat.le_max_right m1 m2)) (Nat.le_refl _) e2⟩⟩
            | some q => rw [ha] at h; exact ih h
          | call f args z =>
            rw [hs] at h
            simp only at h ⊢
            cases ha : cz z cf (aev (dn N l) f) (args.map (aev (dn N l))) σ with
            | none => rw [ha] at h; cases h
            | some q =>
              rw [ha] at h
              obtain ⟨m1, h1⟩ := cz_compact hc z _ _ _ _ ha
              obtain ⟨m2, h2⟩ := ih h
              refine ⟨max m1 m2, ?_⟩
              rw [cz_mono (hm _ _ (Nat.le_max_left m1 m2)) z _ _ _ _ h1]
              exact runN_mono (RtLe.refl _) (hm _ _ (Nat.le_max_right m1 m2)) (Nat.le_refl _) h2
    | .dins (d :: ds) hh :: ks =>
      simp only [runN] at h ⊢
      cases hg : guardA (dn N l) d.x.g with
      | none => rw [hg] at h; cases h
      | some b =>
        rw [hg] at h
        cases b with
        | false => exact ih h
        | true =>
          simp only at h ⊢
          cases hs : d.x.s with
          | op i =>
            rw [hs] at h
            simp only at h ⊢
            cases ha : ai (dn N l) σ i with
            | none => rw [ha] at h; cases h
            | some q =>
              rw [ha] at h
              simp only at h ⊢
              split at h
              · rename_i hr; obtain ⟨m, hh⟩ := ih h; exact ⟨m, by rw [if_pos hr]; exact hh⟩
              · cases h
          | call f args z =>
            rw [hs] at h
            simp only at h ⊢
            cases ha : cz z cf (aev (dn N l) f) (args.map (aev (dn N l))) σ with
            | none => rw [ha] at h; cases h
            | some q =>
              rw [ha] at h
              simp only at h
              split at h
              · rename_i hr
                obtain ⟨m1, h1⟩ := cz_compact hc z _ _ _ _ ha
                obtain ⟨m2, h2⟩ := ih h
                refine ⟨max m1 m2, ?_⟩
                rw [cz_mono (hm _ _ (Nat.le_max_left m1 m2)) z _ _ _ _ h1]
                simp only
                rw [if_pos hr]
                exact runN_mono (RtLe.refl _) (hm _ _ (Nat.le_max_right m1 m2)) (Nat.le_refl _) h2
              · cases h
    | .code c :: ks =>
      cases c with
      | ret => exact ⟨0, by simpa [runN] using h⟩
      | cond c t e =>
        simp only [runN] at h ⊢
        split at h
        · split at h <;> rename_i hb <;> simp only [hb, if_true, if_false, Bool.false_eq_true] <;> exact ih h
        · cases h
      | exit id =>
        simp only [runN] at h ⊢
        cases hk : exitK id ks with
        | none => rw [hk] at h; cases h
        | some ks' => rw [hk] at h; exact ih h
      | ghost g a =>
        simp only [runN] at h ⊢
        cases hk : evG n0 l σ g with
        | none => rw [hk] at h; cases h
        | some q => rw [hk] at h; exact ih h
      | skip => simp only [runN] at h ⊢; exact ih h
      | seq a b => simp only [runN] at h ⊢; exact ih h
      | post a g => simp only [runN] at h ⊢; exact ih h
      | block id a => simp only [runN] at h ⊢; exact ih h
      | loop a => simp only [runN] at h ⊢; exact ih h
      | reg xs => simp only [runN] at h ⊢; exact ih h
      | draw ds ms => simp only [runN] at h ⊢; exact ih h

theorem callM_compact {fns : Fns} {f : FuncId} {args : List PV} {σ : List AObj} {r : PV × List AObj} (k : callM fns (ev fns) f args σ = some r) : ∃ m, callM fns (evN fns rtC m) f args σ = some r := by
  unfold callM at k ⊢
  cases hf : fns f with
  | none => rw [hf] at k; cases k
  | some a =>
    rw [hf] at k
    simp only at k ⊢
    split at k
    · rename_i hp
      obtain ⟨m, hm⟩ := ev_eq.1 k
      exact ⟨m, by rw [if_pos hp]; exact hm⟩
    · rename_i hp
      split at k
      · rename_i hb
        rw [Option.map_eq_some_iff] at k
        obtain ⟨q, h1, h2⟩ := k
        obtain ⟨m, hm⟩ := ev_eq.1 h1
        exact ⟨m, by rw [if_neg hp, if_pos hb, hm, ← h2]; rfl⟩
      · rename_i hb
        cases hmo : mapO (dfr σ 9) args with
        | none => rw [hmo] at k; cases k
        | some args' =>
          rw [hmo] at k
          simp only at k ⊢
          cases he : ev fns f (PV.tys a.ats args') [] with
          | none => rw [he] at k; cases k
          | some q =>
            rw [he] at k
            obtain ⟨m, hm⟩ := ev_eq.1 he
            exact ⟨m, by rw [if_neg hp, if_neg hb, hm]; exact k⟩
theorem callV_compact {fns : Fns} (p : PV) (args : List PV) (σ : List AObj) (r : PV × List AObj) (k : callV fns (ev fns) p args σ = some r) : ∃ m, callV fns (evN fns rtC m) p args σ = some r := by
  unfold callV at k ⊢
  split at k
  · split at k
    · rename_i hc
      obtain ⟨m, hm⟩ := callM_compact k
      exact ⟨m, by rw [if_pos hc]; exact hm⟩
    · cases k
  · exact callM_compact k
  · cases k

/-- A function comes to what its body comes to. -/
theorem ev_intro {fns : Fns} {f : FuncId} {a : FnA} {args : List PV} {σ : List AObj} {q : Fr × List AObj} {r : PV × List AObj} (ha : fns f = some a) (hs : a.sp = none) (hl : args.length ≤ a.nt)
    (h : run fns a.nt σ.length [.code a.ac] (frA 0 args) σ = some q) (hf : fin a σ.length q = some r) : ev fns f args σ = some r := by
  obtain ⟨n, hn⟩ := run_eq.1 h
  obtain ⟨m, hm⟩ := runN_compact callV_compact (fun m m' h => callV_mono (evN_mono (RtLe.refl _) h)) hn
  refine ev_eq.2 ⟨max n m + 1, ?_⟩
  simp only [evN, ha, hs, if_pos hl]
  rw [Option.bind_eq_some_iff]
  exact ⟨q, runN_mono (RtLe.refl _) (callV_mono (evN_mono (RtLe.refl _) (Nat.le_max_right n m))) (Nat.le_max_left n m) hm, hf⟩

/-- What is told of a function. -/
theorem ev_sp {fns : Fns} {f : FuncId} {a : FnA} {g : List PV → List AObj → Option (PV × List AObj)} (ha : fns f = some a) (hs : a.sp = some g) (args : List PV) (σ : List AObj) : ev fns f args σ = g args σ := by
  apply Option.ext
  intro r
  rw [ev_eq]
  constructor
  · rintro ⟨n, hn⟩
    cases n with
    | zero => simp [evN] at hn
    | succ n => simpa only [evN, ha, hs] using hn
  · intro h
    exact ⟨1, by simp only [evN, ha, hs]; exact h⟩

end Aw
end Go.Proofs.Ytoliadfdklfmfaa
