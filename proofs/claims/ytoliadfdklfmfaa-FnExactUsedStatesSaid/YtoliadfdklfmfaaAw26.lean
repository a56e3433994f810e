/- The evaluator without fuel, with its equations: for symbolic runs. -/
import Derived.Test.YtoliadfdklfmfaaAw25
set_option linter.unusedVariables false
set_option linter.unusedSimpArgs false
namespace Go.Proofs.Ytoliadfdklfmfaa
namespace Aw

/-- What a chain of partial answers comes to. -/
noncomputable def lim {β : Type} (s : Nat → Option β) : Option β := by
  classical exact if h : ∃ n r, s n = some r then some (Classical.choose (Classical.choose_spec h)) else none
def Chain {β : Type} (s : Nat → Option β) : Prop := ∀ n r, s n = some r → s (n + 1) = some r
theorem Chain.le {β : Type} {s : Nat → Option β} (h : Chain s) {n m : Nat} (hn : n ≤ m) {r : β} (k : s n = some r) : s m = some r := by
  induction hn with
  | refl => exact k
  | step _ ih => exact h _ _ ih
theorem lim_eq {β : Type} {s : Nat → Option β} (h : Chain s) {r : β} : lim s = some r ↔ ∃ n, s n = some r := by
  classical
  unfold lim
  constructor
  · intro k
    split at k
    · rename_i hh
      injection k with k
      exact ⟨_, by rw [← k]; exact Classical.choose_spec (Classical.choose_spec hh)⟩
    · cases k
  · rintro ⟨n, hn⟩
    have hh : ∃ n r, s n = some r := ⟨n, r, hn⟩
    rw [dif_pos hh]
    congr 1
    have k := Classical.choose_spec (Classical.choose_spec hh)
    have a := h.le (Nat.le_max_left n (Classical.choose hh)) hn
    have b := h.le (Nat.le_max_right n (Classical.choose hh)) k
    rw [a] at b; injection b with b; exact b.symm

/-- cf' tells all that cf tells. -/
def CfLe (cf cf' : CF) : Prop := ∀ p args σ r, cf p args σ = some r → cf' p args σ = some r

def RtLe (rt rt' : RT) : Prop := ∀ fr σ h rc, rt fr σ h rc = true → rt' fr σ h rc = true
theorem cz_mono {cf cf' : CF} (h : CfLe cf cf') (z : Bool) : CfLe (cz z cf) (cz z cf') := by
  intro p args σ r k
  cases z with
  | false => exact h _ _ _ _ k
  | true =>
    rw [cz_true] at k ⊢
    split at k
    · rename_i hb
      rw [if_pos hb]
      split at k
      · rename_i r0 h0; rw [h _ _ _ _ h0]; exact k
      · cases k
    · cases k
theorem runN_mono {rt rt' : RT} {cf cf' : CF} {N n0 : Nat} (hrt : RtLe rt rt') (hc : CfLe cf cf') : ∀ {n m : Nat} {ks : List KI} {l : Fr} {σ : List AObj} {r : Fr × List AObj}, n ≤ m → runN rt cf N n0 n ks l σ = some r → runN rt' cf' N n0 m ks l σ = some r := by
  intro n
  induction n with
  | zero => intro m ks l σ r _ h; simp [runN] at h
  | succ n ih =>
    intro m ks l σ r hm h
    cases m with
    | zero => omega
    | succ m =>
      have hm : n ≤ m := by omega
      match ks with
      | [] => simpa [runN] using h
      | .inBlock _ :: ks => simp only [runN] at h ⊢; exact ih hm h
      | .ins [] :: ks => simp only [runN] at h ⊢; exact ih hm h
      | .gh g :: ks =>
        simp only [runN] at h ⊢
        cases hk : evG n0 l σ g with
        | none => rw [hk] at h; cases h
        | some q => rw [hk] at h; exact ih hm h
      | .dins [] _ :: ks => simp only [runN] at h ⊢; exact ih hm h
      | .ins (x :: xs) :: ks =>
        simp only [runN] at h ⊢
        cases hg : guardA (dn N l) x.g with
        | none => rw [hg] at h; cases h
        | some b =>
          rw [hg] at h
          cases b with
          | false => exact ih hm h
          | true =>
            simp only at h ⊢
            cases hs : x.s with
            | op i =>
              rw [hs] at h
              simp only at h ⊢
              cases ha : ai (dn N l) σ i with
              | none =>
                rw [ha] at h
                simp only at h ⊢
                cases h2 : ai2 (dn N l) σ i with
                | none => rw [h2] at h; cases h
                | some q =>
                  rw [h2] at h
                  simp only at h ⊢
                  obtain ⟨k1, k2⟩ := agree_some.1 h
                  exact agree_some.2 ⟨ih hm k1, ih hm k2⟩
              | some q => rw [ha] at h; exact ih hm h
            | call f args z =>
              rw [hs] at h
              simp only at h ⊢
              cases ha : cz z cf (aev (dn N l) f) (args.map (aev (dn N l))) σ with
              | none => rw [ha] at h; cases h
              | some q => rw [ha] at h; rw [cz_mono hc z _ _ _ _ ha]; exact ih hm h
      | .dins (d :: ds) hh :: ks =>
        simp only [runN] at h ⊢
        cases hg : guardA (dn N l) d.x.g with
        | none => rw [hg] at h; cases h
        | some b =>
          rw [hg] at h
          cases b with
          | false => exact ih hm h
          | true =>
            simp only at h ⊢
            cases hs : d.x.s with
            | op i =>
              rw [hs] at h
              simp only at h ⊢
              cases ha : ai (dn N l) σ i with
              | none => rw [ha] at h; cases h
              | some q =>
                rw [ha] at h
                simp only at h ⊢
                split at h
                · rename_i hr
                  have hr' : (!i.eff || rt' (dn N l) q.2 hh d.rc) = true := by
                    cases he : i.eff with
                    | false => rfl
                    | true => rw [he] at hr; simpa using hrt _ _ _ _ (by simpa using hr)
                  rw [if_pos hr']; exact ih hm h
                · cases h
            | call f args z =>
              rw [hs] at h
              simp only at h ⊢
              cases ha : cz z cf (aev (dn N l) f) (args.map (aev (dn N l))) σ with
              | none => rw [ha] at h; cases h
              | some q =>
                rw [ha] at h; rw [cz_mono hc z _ _ _ _ ha]
                simp only at h ⊢
                split at h
                · rename_i hr; rw [if_pos (hrt _ _ _ _ hr)]; exact ih hm h
                · cases h
      | .code c :: ks =>
        cases c with
        | ret => simpa [runN] using h
        | cond c t e =>
          simp only [runN] at h ⊢
          split at h
          · split at h <;> rename_i hb <;> simp only [hb, if_true, if_false, Bool.false_eq_true] <;> exact ih hm h
          · cases h
        | exit id =>
          simp only [runN] at h ⊢
          cases hk : exitK id ks with
          | none => rw [hk] at h; cases h
          | some ks' => rw [hk] at h; exact ih hm h
        | ghost g a =>
          simp only [runN] at h ⊢
          cases hk : evG n0 l σ g with
          | none => rw [hk] at h; cases h
          | some q => rw [hk] at h; exact ih hm h
        | skip => simp only [runN] at h ⊢; exact ih hm h
        | seq a b => simp only [runN] at h ⊢; exact ih hm h
        | post a g => simp only [runN] at h ⊢; exact ih hm h
        | block id a => simp only [runN] at h ⊢; exact ih hm h
        | loop a => simp only [runN] at h ⊢; exact ih hm h
        | reg xs => simp only [runN] at h ⊢; exact ih hm h
        | draw ds ms => simp only [runN] at h ⊢; exact ih hm h

theorem RtLe.refl (rt : RT) : RtLe rt rt := fun _ _ _ _ h => h
theorem CfLe.refl (cf : CF) : CfLe cf cf := fun _ _ _ _ h => h
abbrev EF := FuncId → List PV → List AObj → Option (PV × List AObj)
def EfLe (e e' : EF) : Prop := ∀ f args σ r, e f args σ = some r → e' f args σ = some r
theorem callM_mono {fns : Fns} {e e' : EF} (h : EfLe e e') {f : FuncId} {args : List PV} {σ : List AObj} {r : PV × List AObj} (k : callM fns e f args σ = some r) : callM fns e' f args σ = some r := by
  unfold callM at k ⊢
  cases hf : fns f with
  | none => rw [hf] at k; cases k
  | some a =>
    rw [hf] at k
    simp only at k ⊢
    split at k
    · rename_i hp; rw [if_pos hp]; exact h _ _ _ _ k
    · rename_i hp; rw [if_neg hp]
      split at k
      · rename_i hb; rw [if_pos hb]
        simp only [Option.map_eq_some_iff] at k ⊢
        obtain ⟨q, h1, h2⟩ := k
        exact ⟨q, h _ _ _ _ h1, h2⟩
      · rename_i hb; rw [if_neg hb]
        cases hm : mapO (dfr σ 9) args with
        | none => rw [hm] at k; cases k
        | some args' =>
          rw [hm] at k
          simp only at k ⊢
          cases he : e f (PV.tys a.ats args') [] with
          | none => rw [he] at k; cases k
          | some q => rw [he] at k; rw [h _ _ _ _ he]; exact k
theorem callV_mono {fns : Fns} {e e' : EF} (h : EfLe e e') : CfLe (callV fns e) (callV fns e') := by
  intro p args σ r k
  unfold callV at k ⊢
  split at k
  · split at k
    · rename_i hc; rw [if_pos hc]; exact callM_mono h k
    · cases k
  · exact callM_mono h k
  · cases k
theorem evN_mono {fns : Fns} {rt rt' : RT} (hrt : RtLe rt rt') : ∀ {n m : Nat}, n ≤ m → EfLe (evN fns rt n) (evN fns rt' m) := by
  intro n
  induction n with
  | zero => intro m _ f args σ r h; simp [evN] at h
  | succ n ih =>
    intro m hm f args σ r h
    cases m with
    | zero => omega
    | succ m =>
      simp only [evN] at h ⊢
      cases hf : fns f with
      | none => rw [hf] at h; cases h
      | some a =>
        rw [hf] at h
        simp only at h ⊢
        cases hsp : a.sp with
        | some g => rw [hsp] at h; exact h
        | none =>
        rw [hsp] at h
        simp only at h ⊢
        split at h
        · rename_i hl
          rw [if_pos hl]
          rw [Option.bind_eq_some_iff] at h ⊢
          obtain ⟨q, h1, h2⟩ := h
          exact ⟨q, runN_mono hrt (callV_mono (ih (by omega))) (by omega) h1, h2⟩
        · cases h

/-- The test of what is asked again, as a proposition. -/
noncomputable def rtC : RT := fun fr σ h rc => @decide (rcs fr σ h rc) (Classical.propDecidable _)
theorem rtC_iff {fr : List PV} {σ : List AObj} {h : List DIn} {rc : List Nat} : rtC fr σ h rc = true ↔ rcs fr σ h rc := by simp [rtC]
theorem rtC_ok : RtOk rtC := fun fr σ h rc k => rtC_iff.1 k
theorem rtB_le : RtLe rtB rtC := fun fr σ h rc k => rtC_iff.2 (rtB_ok fr σ h rc k)

/-- Functions, evaluated. -/
noncomputable def ev (fns : Fns) : EF := fun f args σ => lim fun n => evN fns rtC n f args σ
theorem ev_eq {fns : Fns} {f : FuncId} {args : List PV} {σ : List AObj} {r : PV × List AObj} : ev fns f args σ = some r ↔ ∃ n, evN fns rtC n f args σ = some r :=
  lim_eq fun n r h => evN_mono (RtLe.refl _) (Nat.le_succ n) _ _ _ _ h
/-- Code, evaluated. -/
noncomputable def run (fns : Fns) (N n0 : Nat) (ks : List KI) (l : Fr) (σ : List AObj) : Option (Fr × List AObj) := lim fun n => runN rtC (callV fns (ev fns)) N n0 n ks l σ
theorem run_eq {fns : Fns} {N n0 : Nat} {ks : List KI} {l : Fr} {σ : List AObj} {r : Fr × List AObj} : run fns N n0 ks l σ = some r ↔ ∃ n, runN rtC (callV fns (ev fns)) N n0 n ks l σ = some r :=
  lim_eq fun n r h => runN_mono (RtLe.refl _) (CfLe.refl _) (Nat.le_succ n) h

/-- What is told of a kernel run. -/
theorem ev_of_evF {fns : Fns} {n : Nat} {f : FuncId} {args : List PV} {σ : List AObj} {r : PV × List AObj} (h : evF fns rtB n f args σ = some r) : ev fns f args σ = some r := by
  rw [evF_eq] at h
  exact ev_eq.2 ⟨n, evN_mono rtB_le (Nat.le_refl n) _ _ _ _ h⟩
theorem ev_sound {P : Program} {fns : Fns} (hm : P.follows .mixedOrders = true) (hf : FnsOk P fns) {f : FuncId} {args : List PV} {σ : List AObj} {r : PV × List AObj} (h : ev fns f args σ = some r) : Gets P f args σ r :=
  let ⟨n, hn⟩ := ev_eq.1 h
  evN_sound hm hf rtC_ok n f args σ r hn

end Aw
end Go.Proofs.Ytoliadfdklfmfaa
