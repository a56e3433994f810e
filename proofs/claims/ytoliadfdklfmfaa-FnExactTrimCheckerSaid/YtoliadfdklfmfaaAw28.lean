/- The evaluator's equations. -/
import Derived.Test.YtoliadfdklfmfaaAw27
set_option linter.unusedVariables false
set_option linter.unusedSimpArgs false
namespace Go.Proofs.Ytoliadfdklfmfaa
namespace Aw

section
variable {fns : Fns} {N n0 : Nat} {ks ks' : List KI} {l l' : Fr} {σ σ' : List AObj}

theorem run_step (h : ∀ n, runN rtC (callV fns (ev fns)) N n0 (n + 1) ks l σ = runN rtC (callV fns (ev fns)) N n0 n ks' l' σ') : run fns N n0 ks l σ = run fns N n0 ks' l' σ' := by
  apply Option.ext
  intro r
  rw [run_eq, run_eq]
  constructor
  · rintro ⟨n, hn⟩
    cases n with
    | zero => simp [runN] at hn
    | succ n => exact ⟨n, by rw [← h]; exact hn⟩
  · rintro ⟨n, hn⟩
    exact ⟨n + 1, by rw [h]; exact hn⟩
theorem run_fail (h : ∀ n, runN rtC (callV fns (ev fns)) N n0 (n + 1) ks l σ = none) : run fns N n0 ks l σ = none := by
  apply Option.ext
  intro r
  rw [run_eq]
  constructor
  · rintro ⟨n, hn⟩
    cases n with
    | zero => simp [runN] at hn
    | succ n => rw [h] at hn; cases hn
  · intro h; cases h
theorem run_done {r : Fr × List AObj} (h : ∀ n, runN rtC (callV fns (ev fns)) N n0 (n + 1) ks l σ = some r) : run fns N n0 ks l σ = some r := run_eq.2 ⟨1, h 0⟩

theorem run_nil : run fns N n0 [] l σ = some (l, σ) := run_done fun n => by simp [runN]
theorem run_inBlock {id : Nat} : run fns N n0 (.inBlock id :: ks) l σ = run fns N n0 ks l σ := run_step fun n => by simp [runN]
theorem run_ins_nil : run fns N n0 (.ins [] :: ks) l σ = run fns N n0 ks l σ := run_step fun n => by simp [runN]
theorem run_dins_nil {h : List DIn} : run fns N n0 (.dins [] h :: ks) l σ = run fns N n0 ks l σ := run_step fun n => by simp [runN]
theorem run_skip : run fns N n0 (.code .skip :: ks) l σ = run fns N n0 ks l σ := run_step fun n => by simp [runN]
theorem run_seq {a b : AC} : run fns N n0 (.code (.seq a b) :: ks) l σ = run fns N n0 (.code a :: .code b :: ks) l σ := run_step fun n => by simp [runN]
theorem run_block {id : Nat} {a : AC} : run fns N n0 (.code (.block id a) :: ks) l σ = run fns N n0 (.code a :: .inBlock id :: ks) l σ := run_step fun n => by simp [runN]
theorem run_loop {a : AC} : run fns N n0 (.code (.loop a) :: ks) l σ = run fns N n0 (.code a :: .code (.loop a) :: ks) l σ := run_step fun n => by simp [runN]
theorem run_reg {xs : List AIn} : run fns N n0 (.code (.reg xs) :: ks) l σ = run fns N n0 (.ins xs :: ks) l σ := run_step fun n => by simp [runN]
theorem run_draw {ds : List DIn} {ms : List Nat} : run fns N n0 (.code (.draw ds ms) :: ks) l σ = run fns N n0 (.dins ds [] :: ks) l σ := run_step fun n => by simp [runN]
theorem run_ret : run fns N n0 (.code .ret :: ks) l σ = some (l, σ) := run_done fun n => by simp [runN]
theorem run_exit {id : Nat} : run fns N n0 (.code (.exit id) :: ks) l σ = match exitK id ks with
    | some ks' => run fns N n0 ks' l σ
    | none => none := by
  cases h : exitK id ks with
  | none => exact run_fail fun n => by simp [runN, h]
  | some ks' => exact run_step fun n => by simp [runN, h]
theorem run_ghost {g : Gh} {a : AC} : run fns N n0 (.code (.ghost g a) :: ks) l σ = match evG n0 l σ g with
    | some r => run fns N n0 (.code a :: ks) r.1 r.2
    | none => none := by
  cases h : evG n0 l σ g with
  | none => exact run_fail fun n => by simp [runN, h]
  | some r => exact run_step fun n => by simp [runN, h]
theorem run_post {g : Gh} {a : AC} : run fns N n0 (.code (.post a g) :: ks) l σ = run fns N n0 (.code a :: .gh g :: ks) l σ := run_step fun n => by simp [runN]
theorem run_gh {g : Gh} : run fns N n0 (.gh g :: ks) l σ = match evG n0 l σ g with
    | some r => run fns N n0 ks r.1 r.2
    | none => none := by
  cases h : evG n0 l σ g with
  | none => exact run_fail fun n => by simp [runN, h]
  | some r => exact run_step fun n => by simp [runN, h]
theorem run_cond {c : Operand} {t e : AC} : run fns N n0 (.code (.cond c t e) :: ks) l σ = match aev (dn N l) c with
    | .val (.bool b) => if b = true then run fns N n0 (.code t :: ks) l σ else run fns N n0 (.code e :: ks) l σ
    | _ => none := by
  cases h : aev (dn N l) c with
  | val v =>
    cases v with
    | bool b =>
      cases b with
      | true => exact run_step fun n => by simp [runN, h]
      | false => exact run_step fun n => by simp [runN, h]
    | _ => exact run_fail fun n => by simp [runN, h]
  | _ => exact run_fail fun n => by simp [runN, h]
theorem run_ins {x : AIn} {xs : List AIn} : run fns N n0 (.ins (x :: xs) :: ks) l σ = match guardA (dn N l) x.g with
    | some true => match x.s with
      | .op i => match ai (dn N l) σ i with
        | some r => run fns N n0 (.ins xs :: ks) (putD l x.dst r.1) r.2
        | none => match ai2 (dn N l) σ i with
          | some q => agree (run fns N n0 (.ins xs :: ks) (putD l x.dst q.1.1) q.1.2) (run fns N n0 (.ins xs :: ks) (putD l x.dst q.2.1) q.2.2)
          | none => none
      | .call f args z => match cz z (callV fns (ev fns)) (aev (dn N l) f) (args.map (aev (dn N l))) σ with
        | some r => run fns N n0 (.ins xs :: ks) (putD l x.dst r.1) r.2
        | none => none
    | some false => run fns N n0 (.ins xs :: ks) (kilD l x.dst) σ
    | none => none := by
  cases hg : guardA (dn N l) x.g with
  | none => exact run_fail fun n => by simp [runN, hg]
  | some b =>
    cases b with
    | false => exact run_step fun n => by simp [runN, hg]
    | true =>
      cases hs : x.s with
      | op i =>
        simp only
        cases ha : ai (dn N l) σ i with
        | none =>
          simp only
          cases h2 : ai2 (dn N l) σ i with
          | none => exact run_fail fun n => by simp [runN, hg, hs, ha, h2]
          | some q =>
            simp only
            apply Option.ext
            intro r
            rw [agree_some, run_eq, run_eq, run_eq]
            constructor
            · rintro ⟨n, hn⟩
              cases n with
              | zero => simp [runN] at hn
              | succ n =>
                simp only [runN, hg, hs, ha, h2] at hn
                obtain ⟨k1, k2⟩ := agree_some.1 hn
                exact ⟨⟨n, k1⟩, ⟨n, k2⟩⟩
            · rintro ⟨⟨n, k1⟩, ⟨m, k2⟩⟩
              refine ⟨max n m + 1, ?_⟩
              simp only [runN, hg, hs, ha, h2]
              exact agree_some.2 ⟨runN_mono (RtLe.refl _) (CfLe.refl _) (Nat.le_max_left n m) k1, runN_mono (RtLe.refl _) (CfLe.refl _) (Nat.le_max_right n m) k2⟩
        | some r => exact run_step fun n => by simp [runN, hg, hs, ha]
      | call f args z =>
        simp only
        cases ha : cz z (callV fns (ev fns)) (aev (dn N l) f) (args.map (aev (dn N l))) σ with
        | none => exact run_fail fun n => by simp [runN, hg, hs, ha]
        | some r => exact run_step fun n => by simp [runN, hg, hs, ha]
open Classical in
theorem run_dins {d : DIn} {ds h : List DIn} : run fns N n0 (.dins (d :: ds) h :: ks) l σ = match guardA (dn N l) d.x.g with
    | some true => match d.x.s with
      | .op i => match ai (dn N l) σ i with
        | some r => if i.eff = true → rcs (dn N l) r.2 h d.rc then run fns N n0 (.dins ds (d :: h) :: ks) (putD l d.x.dst r.1) r.2 else none
        | none => none
      | .call f args z => match cz z (callV fns (ev fns)) (aev (dn N l) f) (args.map (aev (dn N l))) σ with
        | some r => if rcs (dn N l) r.2 h d.rc then run fns N n0 (.dins ds (d :: h) :: ks) (putD l d.x.dst r.1) r.2 else none
        | none => none
    | some false => run fns N n0 (.dins ds (d :: h) :: ks) (kilD l d.x.dst) σ
    | none => none := by
  cases hg : guardA (dn N l) d.x.g with
  | none => exact run_fail fun n => by simp [runN, hg]
  | some b =>
    cases b with
    | false => exact run_step fun n => by simp [runN, hg]
    | true =>
      cases hs : d.x.s with
      | op i =>
        simp only
        cases ha : ai (dn N l) σ i with
        | none => exact run_fail fun n => by simp [runN, hg, hs, ha]
        | some r =>
          simp only
          have hiff : (!i.eff || rtC (dn N l) r.2 h d.rc) = true ↔ (i.eff = true → rcs (dn N l) r.2 h d.rc) := by
            rw [← rtC_iff]; cases i.eff <;> simp
          split
          · rename_i hc; exact run_step fun n => by simp only [runN, hg, hs, ha]; rw [if_pos (hiff.2 hc)]
          · rename_i hc; exact run_fail fun n => by simp only [runN, hg, hs, ha]; rw [if_neg (fun e => hc (hiff.1 e))]
      | call f args z =>
        simp only
        cases ha : cz z (callV fns (ev fns)) (aev (dn N l) f) (args.map (aev (dn N l))) σ with
        | none => exact run_fail fun n => by simp [runN, hg, hs, ha]
        | some r =>
          simp only
          split
          · rename_i hc; exact run_step fun n => by simp only [runN, hg, hs, ha]; rw [if_pos (rtC_iff.2 hc)]
          · rename_i hc; exact run_fail fun n => by simp only [runN, hg, hs, ha]; rw [if_neg (fun e => hc (rtC_iff.1 e))]
end

/-- A function comes to what its body's run comes to. -/
theorem ev_run {fns : Fns} {f : FuncId} {a : FnA} {args : List PV} {σ : List AObj} {r : PV × List AObj} (ha : fns f = some a) (hs : a.sp = none) (hl : args.length ≤ a.nt)
    (h : (run fns a.nt σ.length [.code a.ac] (frA 0 args) σ).bind (fin a σ.length) = some r) : ev fns f args σ = some r := by
  rw [Option.bind_eq_some_iff] at h
  obtain ⟨q, h1, h2⟩ := h
  exact ev_intro ha hs hl h1 h2

end Aw
end Go.Proofs.Ytoliadfdklfmfaa
