/- The evaluator without fuel: what a function's body comes to; the equations. -/
import Derived.Test.YtoliadfdklfmfaaAw26
set_option linter.unusedVariables false
set_option linter.unusedSimpArgs false
namespace Go.Proofs.Ytoliadfdklfmfaa
namespace Aw

theorem cz_compact {cf : CF} {cfs : Nat → CF} (hc : ∀ p args σ r, cf p args σ = some r → ∃ m, cfs m p args σ = some r) (z : Bool) : ∀ p args σ r, cz z cf p args σ = some r → ∃ m, cz z (cfs m) p args σ = some r := by
  intro p args σ r k
  cases z with
  | false => exact hc _ _ _ _ k
  | true =>
    rw [cz_true] at k
    split at k
    · rename_i hb
      split at k
      · rename_i r0 h0
        obtain ⟨m, hm⟩ := hc _ _ _ _ h0
        exact ⟨m, by rw [cz_true, if_pos hb, hm]; exact k⟩
      · cases k
    · cases k
theorem runN_compact {rt : RT} {cf : CF} {cfs : Nat → CF} {N n0 : Nat} (hc : ∀ p args σ r, cf p args σ = some r → ∃ m, cfs m p args σ = some r) (hm : ∀ m m', m ≤ m' → CfLe (cfs m) (cfs m')) :
    ∀ {n : Nat} {ks : List KI} {l : Fr} {σ : List AObj} {r : Fr × List AObj}, runN rt cf N n0 n ks l σ = some r → ∃ m, runN rt (cfs m) N n0 n ks l σ = some r := by
  intro n
  induction n with
  | zero => intro ks l σ r h; simp [runN] at h
  | succ n ih =>
    intro ks l σ r h
    match ks with
    | [] => exact ⟨0, by simpa [runN] using h⟩
    | .inBlock _ :: ks => simp only [runN] at h ⊢; exact ih h
    | .ins [] :: ks => simp only [runN] at h ⊢; exact ih h
    | .gh g :: ks =>
      simp only [runN] at h ⊢
      cases hk : evG n0 l σ g with
      | none => rw [hk] at h; cases h
      | some q => rw [hk] at h; exact ih h
    | .dins [] _ :: ks => simp only [runN] at h ⊢; exact ih h
    | .ins (x :: xs) :: ks =>
      simp only [runN] at h ⊢
      cases hg : guardA (dn N l) x.g with
      | none => rw [hg] at h; cases h
      | some b =>
        rw [hg] at h
        cases b with
        | false => exact ih h
        | true =>
          simp only at h ⊢
          cases hs : x.s with
          | op i =>
            rw [hs] at h
            simp only at h ⊢
            cases ha : ai (dn N l) σ i with
            | none =>
              rw [ha] at h
              simp only at h ⊢
              cases h2 : ai2 (dn N l) σ i with
              | none => rw [h2] at h; cases h
              | some q =>
                rw [h2] at h
                simp only at h ⊢
                obtain ⟨k1, k2⟩ := agree_some.1 h
                obtain ⟨m1, e1⟩ := ih k1
                obtain ⟨m2, e2⟩ := ih k2
                exact ⟨max m1 m2, agree_some.2 ⟨runN_mono (RtLe.refl _) (hm _ _ (Nat.le_max_left m1 m2)) (Nat.le_refl _) e1, runN_mono (RtLe.refl _) (hm _ _ (Nat.le_max_right m1 m2)) (Nat.le_refl _) e2⟩⟩
            | some q => rw [ha] at h; exact ih h
          | call f args z =>
            rw [hs] at h
            simp only at h ⊢
            cases ha : cz z cf (aev (dn N l) f) (args.map (aev (dn N l))) σ with
            | none => rw [ha] at h; cases h
            | some q =>
              rw [ha] at h
              obtain ⟨m1, h1⟩ := cz_compact hc z _ _ _ _ ha
              obtain ⟨m2, h2⟩ := ih h
              refine ⟨max m1 m2, ?_⟩
              rw [cz_mono (hm _ _ (Nat.le_max_left m1 m2)) z _ _ _ _ h1]
              exact runN_mono (RtLe.refl _) (hm _ _ (Nat.le_max_right m1 m2)) (Nat.le_refl _) h2
    | .dins (d :: ds) hh :: ks =>
      simp only [runN] at h ⊢
      cases hg : guardA (dn N l) d.x.g with
      | none => rw [hg] at h; cases h
      | some b =>
        rw [hg] at h
        cases b with
        | false => exact ih h
        | true =>
          simp only at h ⊢
          cases hs : d.x.s with
          | op i =>
            rw [hs] at h
            simp only at h ⊢
            cases ha : ai (dn N l) σ i with
            | none => rw [ha] at h; cases h
            | some q =>
              rw [ha] at h
              simp only at h ⊢
              split at h
              · rename_i hr; obtain ⟨m, hh⟩ := ih h; exact ⟨m, by rw [if_pos hr]; exact hh⟩
              · cases h
          | call f args z =>
            rw [hs] at h
            simp only at h ⊢
            cases ha : cz z cf (aev (dn N l) f) (args.map (aev (dn N l))) σ with
            | none => rw [ha] at h; cases h
            | some q =>
              rw [ha] at h
              simp only at h
              split at h
              · rename_i hr
                obtain ⟨m1, h1⟩ := cz_compact hc z _ _ _ _ ha
                obtain ⟨m2, h2⟩ := ih h
                refine ⟨max m1 m2, ?_⟩
                rw [cz_mono (hm _ _ (Nat.le_max_left m1 m2)) z _ _ _ _ h1]
                simp only
                rw [if_pos hr]
                exact runN_mono (RtLe.refl _) (hm _ _ (Nat.le_max_right m1 m2)) (Nat.le_refl _) h2
              · cases h
    | .code c :: ks =>
      cases c with
      | ret => exact ⟨0, by simpa [runN] using h⟩
      | cond c t e =>
        simp only [runN] at h ⊢
        split at h
        · split at h <;> rename_i hb <;> simp only [hb, if_true, if_false, Bool.false_eq_true] <;> exact ih h
        · cases h
      | exit id =>
        simp only [runN] at h ⊢
        cases hk : exitK id ks with
        | none => rw [hk] at h; cases h
        | some ks' => rw [hk] at h; exact ih h
      | ghost g a =>
        simp only [runN] at h ⊢
        cases hk : evG n0 l σ g with
        | none => rw [hk] at h; cases h
        | some q => rw [hk] at h; exact ih h
      | skip => simp only [runN] at h ⊢; exact ih h
      | seq a b => simp only [runN] at h ⊢; exact ih h
      | post a g => simp only [runN] at h ⊢; exact ih h
      | block id a => simp only [runN] at h ⊢; exact ih h
      | loop a => simp only [runN] at h ⊢; exact ih h
      | reg xs => simp only [runN] at h ⊢; exact ih h
      | draw ds ms => simp only [runN] at h ⊢; exact ih h

theorem callM_compact {fns : Fns} {f : FuncId} {args : List PV} {σ : List AObj} {r : PV × List AObj} (k : callM fns (ev fns) f args σ = some r) : ∃ m, callM fns (evN fns rtC m) f args σ = some r := by
  unfold callM at k ⊢
  cases hf : fns f with
  | none => rw [hf] at k; cases k
  | some a =>
    rw [hf] at k
    simp only at k ⊢
    split at k
    · rename_i hp
      obtain ⟨m, hm⟩ := ev_eq.1 k
      exact ⟨m, by rw [if_pos hp]; exact hm⟩
    · rename_i hp
      split at k
      · rename_i hb
        rw [Option.map_eq_some_iff] at k
        obtain ⟨q, h1, h2⟩ := k
        obtain ⟨m, hm⟩ := ev_eq.1 h1
        exact ⟨m, by rw [if_neg hp, if_pos hb, hm, ← h2]; rfl⟩
      · rename_i hb
        cases hmo : mapO (dfr σ 9) args with
        | none => rw [hmo] at k; cases k
        | some args' =>
          rw [hmo] at k
          simp only at k ⊢
          cases he : ev fns f (PV.tys a.ats args') [] with
          | none => rw [he] at k; cases k
          | some q =>
            rw [he] at k
            obtain ⟨m, hm⟩ := ev_eq.1 he
            exact ⟨m, by rw [if_neg hp, if_neg hb, hm]; exact k⟩
theorem callV_compact {fns : Fns} (p : PV) (args : List PV) (σ : List AObj) (r : PV × List AObj) (k : callV fns (ev fns) p args σ = some r) : ∃ m, callV fns (evN fns rtC m) p args σ = some r := by
  unfold callV at k ⊢
  split at k
  · split at k
    · rename_i hc
      obtain ⟨m, hm⟩ := callM_compact k
      exact ⟨m, by rw [if_pos hc]; exact hm⟩
    · cases k
  · exact callM_compact k
  · cases k

/-- A function comes to what its body comes to. -/
theorem ev_intro {fns : Fns} {f : FuncId} {a : FnA} {args : List PV} {σ : List AObj} {q : Fr × List AObj} {r : PV × List AObj} (ha : fns f = some a) (hs : a.sp = none) (hl : args.length ≤ a.nt)
    (h : run fns a.nt σ.length [.code a.ac] (frA 0 args) σ = some q) (hf : fin a σ.length q = some r) : ev fns f args σ = some r := by
  obtain ⟨n, hn⟩ := run_eq.1 h
  obtain ⟨m, hm⟩ := runN_compact callV_compact (fun m m' h => callV_mono (evN_mono (RtLe.refl _) h)) hn
  refine ev_eq.2 ⟨max n m + 1, ?_⟩
  simp only [evN, ha, hs, if_pos hl]
  rw [Option.bind_eq_some_iff]
  exact ⟨q, runN_mono (RtLe.refl _) (callV_mono (evN_mono (RtLe.refl _) (Nat.le_max_right n m))) (Nat.le_max_left n m) hm, hf⟩

/-- What is told of a function. -/
theorem ev_sp {fns : Fns} {f : FuncId} {a : FnA} {g : List PV → List AObj → Option (PV × List AObj)} (ha : fns f = some a) (hs : a.sp = some g) (args : List PV) (σ : List AObj) : ev fns f args σ = g args σ := by
  apply Option.ext
  intro r
  rw [ev_eq]
  constructor
  · rintro ⟨n, hn⟩
    cases n with
    | zero => simp [evN] at hn
    | succ n => simpa only [evN, ha, hs] using hn
  · intro h
    exact ⟨1, by simp only [evN, ha, hs]; exact h⟩

end Aw
end Go.Proofs.Ytoliadfdklfmfaa
