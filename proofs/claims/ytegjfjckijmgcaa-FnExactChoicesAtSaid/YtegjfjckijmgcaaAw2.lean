/- The calculus of code over abstract frames and states: control. -/
import Derived.Test.YtegjfjckijmgcaaAw1
set_option linter.unusedVariables false
set_option linter.unusedSimpArgs false
namespace Go.Proofs.Ytegjfjckijmgcaa
namespace Aw

structure FR (g : G) (fr : List PV) (a : Act) : Prop where
  defers : a.defers = []
  size : a.tmps.size = fr.length
  slot : ∀ (i : Nat) p, fr[i]? = some p → ∃ v, a.tmps[i]? = some v ∧ R g p v

/-- The frame and the state stand for the machine's, as they have come out of g0. -/
def Rel (g0 : G) (fr : List PV) (σ : List AObj) (a : Act) (w : World) : Prop := ∃ ρ, St ⟨σ, ρ, w, g0.h⟩ ∧ Step g0 ⟨σ, ρ, w, g0.h⟩ ∧ FR ⟨σ, ρ, w, g0.h⟩ fr a

/-- How code ends. -/
inductive X where
  | normal
  | exit (id : Nat)
  | ret
def X.to : X → Exit
  | .normal => .normal
  | .exit id => .exit id
  | .ret => .ret
abbrev Post := X → List PV → List AObj → Prop

def lift (g0 : G) (Q : Post) (e : Exit) (a : Act) (w : World) : Prop := ∃ x fr σ, e = X.to x ∧ Rel g0 fr σ a w ∧ Q x fr σ

/-- From each machine state for which the frame and the state stand, the code ends as Q says. n: how many objects there were when the function began. -/
def AW (P : Program) (n : Nat) (c : Code) (Q : Post) (fr : List PV) (σ : List AObj) : Prop :=
  ∀ g0 a w, g0.σ.length = n → Rel g0 fr σ a w → c.wp P (lift g0 Q) a w

/-- Whatever stands for fr and σ stands for fr' and σ', too. -/
def Imp (n : Nat) (fr : List PV) (σ : List AObj) (fr' : List PV) (σ' : List AObj) : Prop := ∀ g0 a w, g0.σ.length = n → Rel g0 fr σ a w → Rel g0 fr' σ' a w
theorem Imp.refl (n : Nat) (fr : List PV) (σ : List AObj) : Imp n fr σ fr σ := fun _ _ _ _ h => h
theorem Imp.trans {n : Nat} {fr fr' fr'' : List PV} {σ σ' σ'' : List AObj} (h : Imp n fr σ fr' σ') (k : Imp n fr' σ' fr'' σ'') : Imp n fr σ fr'' σ'' := fun g a w hn hr => k g a w hn (h g a w hn hr)

def thenA (next : List PV → List AObj → Prop) (Q : Post) : Post
  | .normal, fr, σ => next fr σ
  | e, fr, σ => Q e fr σ
def blockA (id : Nat) (Q : Post) : Post
  | .exit id', fr, σ => if id' = id then Q .normal fr σ else Q (.exit id') fr σ
  | e, fr, σ => Q e fr σ

section
variable {P : Program} {n : Nat} {Q : Post} {fr : List PV} {σ : List AObj}

theorem AW.imp {c : Code} {fr' : List PV} {σ' : List AObj} (h : Imp n fr σ fr' σ') (k : AW P n c Q fr' σ') : AW P n c Q fr σ :=
  fun g0 a w hn hr => k g0 a w hn (h g0 a w hn hr)
theorem AW.mono {c : Code} {Q' : Post} (h : AW P n c Q fr σ) (k : ∀ x fr σ, Q x fr σ → Q' x fr σ) : AW P n c Q' fr σ :=
  fun g0 a w hn hr => wp_mono (h g0 a w hn hr) fun e a w ⟨x, fr, σ, he, hr, hq⟩ => ⟨x, fr, σ, he, hr, k _ _ _ hq⟩
theorem AW_skip (h : Q .normal fr σ) : AW P n .skip Q fr σ := fun g0 a w hn hr => wp_skip ⟨.normal, fr, σ, rfl, hr, h⟩
theorem AW_exit {id : Nat} (h : Q (.exit id) fr σ) : AW P n (.exit id) Q fr σ := fun g0 a w hn hr => wp_exit ⟨.exit id, fr, σ, rfl, hr, h⟩
theorem AW_ret (h : Q .ret fr σ) : AW P n .ret Q fr σ := fun g0 a w hn hr => wp_ret ⟨.ret, fr, σ, rfl, hr, h⟩
theorem AW_seq {x y : Code} (h : AW P n x (thenA (AW P n y Q) Q) fr σ) : AW P n (.seq x y) Q fr σ := by
  intro g0 a w hn hr
  refine wp_seq (wp_mono (h g0 a w hn hr) ?_)
  rintro e a1 w1 ⟨z, fr1, σ1, rfl, hr1, hq⟩
  cases z with
  | normal => exact hq g0 a1 w1 hn hr1
  | exit id => exact ⟨.exit id, fr1, σ1, rfl, hr1, hq⟩
  | ret => exact ⟨.ret, fr1, σ1, rfl, hr1, hq⟩
theorem AW_block {id : Nat} {c : Code} (h : AW P n c (blockA id Q) fr σ) : AW P n (.block id c) Q fr σ := by
  intro g0 a w hn hr
  refine wp_block (wp_mono (h g0 a w hn hr) ?_)
  rintro e a1 w1 ⟨z, fr1, σ1, rfl, hr1, hq⟩
  cases z with
  | normal => exact ⟨.normal, fr1, σ1, rfl, hr1, hq⟩
  | ret => exact ⟨.ret, fr1, σ1, rfl, hr1, hq⟩
  | exit id' =>
    simp only [blockA] at hq
    simp only [X.to, Exit.inBlock]
    split
    · rename_i he; rw [if_pos he] at hq; exact ⟨.normal, fr1, σ1, rfl, hr1, hq⟩
    · rename_i he; rw [if_neg he] at hq; exact ⟨.exit id', fr1, σ1, rfl, hr1, hq⟩

/-! ### Operands -/
/-- An operand. -/
def aev (fr : List PV) : Operand → PV
  | .tmp t => fr.getD t .any
  | .const v => .val v
  | .func f => .val (.func (.func f) #[] #[])
  | .global _ => .any

theorem FR.ev {g : G} {a : Act} (h : FR g fr a) (x : Operand) : R g (aev fr x) (a.eval x) := by
  cases x with
  | tmp t =>
    simp only [aev, Act.eval]
    cases ht : fr[t]? with
    | none => simp [ht, R_any]
    | some p =>
      obtain ⟨v, hv, hr⟩ := h.slot t p ht
      simp [ht, hv, hr]
  | const v => exact R_val.2 rfl
  | func f => exact R_val.2 rfl
  | global g => exact R_any _ _

theorem AW_cond {c : Operand} {x y : Code} {b : Bool} (hc : aev fr c = .val (.bool b)) (hx : b = true → AW P n x Q fr σ) (hy : b = false → AW P n y Q fr σ) : AW P n (.cond c x y) Q fr σ := by
  intro g0 a w hn hr
  obtain ⟨ρ, hst, hs, hf⟩ := hr
  have he := hf.ev c
  rw [hc, R_val] at he
  exact wp_cond_split he (fun h => hx h g0 a w hn ⟨ρ, hst, hs, hf⟩) (fun h => hy h g0 a w hn ⟨ρ, hst, hs, hf⟩)

end

/-! ### A loop: one round and the loop again -/
theorem exitTo_length {id : Nat} : ∀ {k k' : List Item}, exitTo id k = some k' → k'.length < k.length
  | [], _, h => by simp [exitTo] at h
  | x :: k, k', h => by
    cases x with
    | inBlock id' =>
      simp only [exitTo] at h
      split at h
      · simp at h; subst h; simp
      · have := exitTo_length h; simp; omega
    | _ => simp only [exitTo] at h; have := exitTo_length h; simp; omega

theorem steps_swap {P : Program} {m1 m2 x m' : Machine} (s1 : step P m1 = .next x) (s2 : step P m2 = .next x) (hne : m' ≠ m1) (h : Steps P m1 m') : Steps P m2 m' := by
  obtain ⟨k, hk⟩ := h
  cases k with
  | zero => simp [runN] at hk; exact absurd hk.symm hne
  | succ k =>
    simp only [runN, s1] at hk
    exact Steps.head s2 ⟨k, hk⟩

theorem lone_ne_todo {b : Frame} {a a' : Act} {t t' : List Item} {cs : List Frame} {w w' : World} (h : t ≠ t') : lone (b.at a t) cs w ≠ lone (b.at a' t') cs w' := by
  intro e
  simp [lone, Frame.at] at e
  exact h e.2.2.1
theorem wp_loop_unroll {P : Program} {c : Code} {Q : Exit → Act → World → Prop} {a : Act} {w : World} (ho : ∀ a w, ¬ Q .outgrown a w) (hg : ∀ l a w, ¬ Q (.goto l) a w)
    (h : c.wp P (Exit.then ((Code.loop c).wp P Q) Q) a w) : (Code.loop c).wp P Q a w := by
  intro b k cs
  obtain ⟨e, a1, w1, hq, harr⟩ := h b (.inLoop c :: k) cs
  cases e with
  | normal =>
    obtain ⟨e2, a2, w2, hq2, harr2⟩ := hq b k cs
    refine ⟨e2, a2, w2, hq2, ?_⟩
    have hX : ∀ m', m' ≠ lone (b.at a1 (.code (.loop c) :: k)) cs w1 → Steps P (lone (b.at a1 (.code (.loop c) :: k)) cs w1) m' → Steps P (lone (b.at a (.code (.loop c) :: k)) cs w) m' :=
      fun m' hne hs => (Steps.head step_loop harr).trans (steps_swap step_loop step_inLoop hne hs)
    cases e2 with
    | normal => exact hX _ (lone_ne_todo (fun h => by have := congrArg List.length h; simp at this)) harr2
    | exit id => exact fun k' hk => hX _ (lone_ne_todo (fun h => by have := exitTo_length hk; rw [h] at this; simp at this; omega)) (harr2 k' hk)
    | goto l => exact (hg _ _ _ hq2).elim
    | ret =>
      obtain ⟨todo, hs⟩ := harr2
      exact ⟨todo, hX _ (fun h => by simp [lone, Frame.at] at h) hs⟩
    | panic ch =>
      obtain ⟨todo, hs⟩ := harr2
      exact ⟨todo, hX _ (fun h => by simp [lone, Frame.at] at h) hs⟩
    | outgrown => exact (ho _ _ hq2).elim
  | exit id => exact ⟨_, a1, w1, hq, .of_steps (.one step_loop) (.pass (x := .inLoop c) rfl (fun _ _ => .inl (by simp)) harr)⟩
  | goto l => exact ⟨_, a1, w1, hq, .of_steps (.one step_loop) (.pass (x := .inLoop c) rfl (fun _ _ => .inl (by simp)) harr)⟩
  | ret => exact ⟨_, a1, w1, hq, .of_steps (.one step_loop) (.pass (x := .inLoop c) rfl (fun _ _ => .inl (by simp)) harr)⟩
  | panic ch => exact ⟨_, a1, w1, hq, .of_steps (.one step_loop) (.pass (x := .inLoop c) rfl (fun _ _ => .inl (by simp)) harr)⟩
  | outgrown => exact (ho _ _ hq).elim

theorem lift_no {g0 : G} {Q : Post} {a : Act} {w : World} : ¬ lift g0 Q .outgrown a w := by
  rintro ⟨x, fr, σ, he, _⟩
  cases x <;> cases he
theorem lift_no_goto {g0 : G} {Q : Post} {l : Nat} {a : Act} {w : World} : ¬ lift g0 Q (.goto l) a w := by
  rintro ⟨x, fr, σ, he, _⟩
  cases x <;> cases he

theorem AW_loop {P : Program} {n : Nat} {Q : Post} {fr : List PV} {σ : List AObj} {c : Code} (h : AW P n c (thenA (AW P n (.loop c) Q) Q) fr σ) : AW P n (.loop c) Q fr σ := by
  intro g0 a w hn hr
  refine wp_loop_unroll (fun _ _ => lift_no) (fun _ _ _ => lift_no_goto) (wp_mono (h g0 a w hn hr) ?_)
  rintro e a1 w1 ⟨z, fr1, σ1, rfl, hr1, hq⟩
  cases z with
  | normal => exact hq g0 a1 w1 hn hr1
  | exit id => exact ⟨.exit id, fr1, σ1, rfl, hr1, hq⟩
  | ret => exact ⟨.ret, fr1, σ1, rfl, hr1, hq⟩

/-! ### Calls -/
/-- A call with these arguments from this state returns, and Q says what and behind which state. -/
def ACall (P : Program) (f : FuncId) (args : List PV) (σ : List AObj) (Q : PV → List AObj → Prop) : Prop :=
  ∀ (g : G) (vs : List Value), g.σ = σ → St g → Rs g args vs →
    Calls P f vs.toArray g.w fun e w' => ∃ v p σ' ρ', e = .returned v ∧ St ⟨σ', ρ', w', g.h⟩ ∧ Step g ⟨σ', ρ', w', g.h⟩ ∧ R ⟨σ', ρ', w', g.h⟩ p v ∧ Q p σ'

theorem ACall.mono {P : Program} {f : FuncId} {args : List PV} {σ : List AObj} {Q Q' : PV → List AObj → Prop} (h : ACall P f args σ Q) (k : ∀ p σ, Q p σ → Q' p σ) : ACall P f args σ Q' :=
  fun g vs hg hst hr => (h g vs hg hst hr).mono fun e w' ⟨v, p, σ', ρ', h1, h2, h3, h4, h5⟩ => ⟨v, p, σ', ρ', h1, h2, h3, h4, k _ _ h5⟩

/-- How a function's result variables are read, types resolved. -/
inductive ARes where
  | tmp (t : Nat)
  | cell (a : Nat) (n : Nat) (agg : Bool)

/-- The cells behind a pointer, from its place on. -/
def cellsAt (σ : List AObj) : PV → Option (List PV)
  | .fptr cs off => some (cs.drop off)
  | .ptr id ver i off => match σ[id]? with
    | some (.row _ es ver') => if ver = ver' then (es[i]?).map fun e => e.cells.drop off else none
    | _ => none
  | _ => none
/-- What a load of n cells gives. -/
def loadA (σ : List AObj) (p : PV) (n : Nat) (agg : Bool) : Option PV :=
  match cellsAt σ p with
  | some cs => if n ≤ cs.length then (if agg then some (.agg (cs.take n)) else cs.head?) else none
  | none => none
def ares1 (fr : List PV) (σ : List AObj) : ARes → Option PV
  | .tmp t => fr[t]?
  | .cell a n agg => loadA σ (fr.getD a .any) n agg

def objsBel (n : Nat) : List AObj → Bool
  | [] => true
  | .row _ es _ :: os => PV.bels n es && objsBel n os

end Aw
end Go.Proofs.Ytegjfjckijmgcaa
