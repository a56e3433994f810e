/- Code as a whole: the check against the machine's code; functions. -/
import Derived.Test.YtoliadfdklfmfaaAw16
set_option linter.unusedVariables false
set_option linter.unusedSimpArgs false
namespace Go.Proofs.Ytoliadfdklfmfaa
namespace Aw

/-! ### The check of an open region -/
def preB (masks : List Nat) (i k : Nat) : Bool := Nat.testBit (masks.getD i 0) k
def upMask (masks : List Nat) (i : Nat) : List Edge → Nat
  | [] => 0
  | e :: es => if Region.binds .any e && decide (e.on < i) then 2 ^ e.on ||| masks.getD e.on 0 ||| upMask masks i es else upMask masks i es
def nodupB : List Nat → Bool
  | [] => true
  | x :: xs => !xs.contains x && nodupB xs
def okPair (masks : List Nat) (d : DIn) (B : List DIn) (e : DIn) : Bool :=
  (!conflict d.x e.x || preB masks e.idx d.idx) && (!d.x.eff || preB masks e.idx d.idx || e.x.isAl) && (!(d.x.isAl && e.x.isAl) || decide (d.x.dst ≠ e.x.dst)) &&
  (!(e.x.eff && !d.x.eff && d.x.sens) || preB masks e.idx d.idx ||
    (e.rc.contains d.idx && (d :: B).all (fun q => match q.x.dst with | some t => !d.x.reads.contains t | none => true) && B.all (fun q => decide (q.x.dst ≠ d.x.dst))))
def against (masks : List Nat) (d : DIn) : List DIn → List DIn → Bool
  | _, [] => true
  | B, e :: C => okPair masks d B e && against masks d (B ++ [e]) C
def pairsOk (masks : List Nat) : List DIn → Bool
  | [] => true
  | d :: ds => against masks d [] ds && pairsOk masks ds
def chkDraw (P : Program) (ops : Array Oper) (ds : List DIn) (masks : List Nat) : Bool :=
  ds.all (fun d => decide (d.idx < ops.size)) && (List.range ops.size).all (fun i => ds.any fun d => d.idx == i) && nodupB (ds.map DIn.idx) &&
  ds.all (fun d => match ops[d.idx]? with | some o => chkIn P ops o d.x | none => false) &&
  decide (masks.length = ops.size) && (List.range ops.size).all (fun i => match ops[i]? with
    | some o => o.after.toList.all (fun e => !Region.binds .any e || decide (e.on < i)) && (masks.getD i 0 ||| upMask masks i o.after.toList == upMask masks i o.after.toList)
    | none => false) &&
  pairsOk masks ds

theorem upMask_spec {masks : List Nat} {i k : Nat} : ∀ {es : List Edge}, Nat.testBit (upMask masks i es) k = true → ∃ e ∈ es, Region.binds .any e = true ∧ e.on < i ∧ (e.on = k ∨ preB masks e.on k = true)
  | [], h => by simp [upMask] at h
  | e :: es, h => by
    simp only [upMask] at h
    split at h
    · rename_i hc
      simp only [Bool.and_eq_true, decide_eq_true_eq] at hc
      rw [Nat.testBit_or, Nat.testBit_or, Bool.or_eq_true, Bool.or_eq_true] at h
      rcases h with (h | h) | h
      · rw [Nat.testBit_two_pow] at h
        exact ⟨e, List.mem_cons_self .., hc.1, hc.2, .inl (by simpa using h)⟩
      · exact ⟨e, List.mem_cons_self .., hc.1, hc.2, .inr h⟩
      · obtain ⟨e', h1, h2⟩ := upMask_spec h; exact ⟨e', List.mem_cons_of_mem _ h1, h2⟩
    · obtain ⟨e', h1, h2⟩ := upMask_spec h; exact ⟨e', List.mem_cons_of_mem _ h1, h2⟩
theorem nodupB_spec : ∀ {l : List Nat}, nodupB l = true → l.Nodup
  | [], _ => List.nodup_nil
  | x :: xs, h => by
    simp only [nodupB, Bool.and_eq_true, Bool.not_eq_true'] at h
    exact List.nodup_cons.2 ⟨by simpa using h.1, nodupB_spec h.2⟩
theorem against_spec {masks : List Nat} {d : DIn} : ∀ {B0 ds : List DIn}, against masks d B0 ds = true → ∀ B e C, ds = B ++ e :: C → okPair masks d (B0 ++ B) e = true
  | _, [], _, B, e, C, h => by simp at h
  | B0, x :: ds, h, B, e, C, hh => by
    simp only [against, Bool.and_eq_true] at h
    cases B with
    | nil => simp at hh; obtain ⟨rfl, rfl⟩ := hh; simpa using h.1
    | cons y B =>
      simp at hh; obtain ⟨rfl, hh⟩ := hh
      have := against_spec h.2 B e C hh
      simpa using this
theorem pairsOk_spec {masks : List Nat} : ∀ {ds : List DIn}, pairsOk masks ds = true → ∀ A d B e C, ds = A ++ d :: B ++ e :: C → okPair masks d B e = true
  | [], _, A, d, B, e, C, h => by simp at h
  | x :: ds, h, A, d, B, e, C, hh => by
    simp only [pairsOk, Bool.and_eq_true] at h
    cases A with
    | nil =>
      simp at hh; obtain ⟨rfl, hh⟩ := hh
      simpa using against_spec h.1 B e C hh
    | cons y A =>
      simp at hh; obtain ⟨rfl, hh⟩ := hh
      exact pairsOk_spec h.2 A d B e C (by simpa using hh)

theorem chkDraw_ok {P : Program} {ops : Array Oper} {ds : List DIn} {masks : List Nat} (h : chkDraw P ops ds masks = true) : DOk P ops ds fun i k => preB masks i k = true := by
  simp only [chkDraw, Bool.and_eq_true, List.all_eq_true, decide_eq_true_eq] at h
  obtain ⟨⟨⟨⟨⟨⟨h1, h2⟩, h3⟩, h4⟩, h5⟩, h6⟩, h7⟩ := h
  have hp := pairsOk_spec h7
  have h6' : ∀ (i : Nat) o, ops[i]? = some o → (∀ e ∈ o.after.toList, Region.binds .any e = true → e.on < i) ∧ masks.getD i 0 ||| upMask masks i o.after.toList = upMask masks i o.after.toList := by
    intro i o ho
    have hi : i < ops.size := (Array.getElem?_eq_some_iff.1 ho).1
    have := h6 i (by simpa using hi)
    rw [ho] at this
    simp only [Bool.and_eq_true, List.all_eq_true, beq_iff_eq] at this
    refine ⟨fun e he hb => ?_, this.2⟩
    have h := this.1 e he
    rw [hb] at h; simpa using h
  refine ⟨h1, fun i hi => ?_, nodupB_spec h3, fun d hd => ?_, fun i k hk => ?_, fun i o ho e he hb => (h6' i o ho).1 e (by simpa using he) hb, fun A d B e C hh hc => ?_, fun A d B e C hh hc => ?_, fun A d B e C hh hc1 hc2 => ?_, fun A d B e C hh hc1 hc2 hc3 => ?_⟩
  · have := h2 i (by simpa using hi)
    rw [List.any_eq_true] at this
    obtain ⟨d, h1, h2⟩ := this
    exact ⟨d, h1, by simpa using h2⟩
  · have := h4 d hd
    split at this
    · rename_i o ho; exact ⟨o, ho, this⟩
    · cases this
  · have hi : i < ops.size := by
      rcases Nat.lt_or_ge i ops.size with h | h
      · exact h
      · exfalso
        simp only [preB] at hk
        rw [List.getD_eq_getElem?_getD, List.getElem?_eq_none (by omega)] at hk
        simp at hk
    have ho : ops[i]? = some ops[i] := by simp [hi]
    obtain ⟨q1, q2⟩ := h6' i _ ho
    have hk2 : Nat.testBit (upMask masks i ops[i].after.toList) k = true := by
      rw [← q2, Nat.testBit_or]
      simp only [preB] at hk
      rw [hk]; rfl
    obtain ⟨e, k1, k2, k3, k4⟩ := upMask_spec hk2
    exact ⟨_, e, ho, by simpa using k1, k2, k3, k4⟩
  · have := hp A d B e C hh
    simp only [okPair, Bool.and_eq_true] at this
    rw [hc] at this
    simpa using this.1.1.1
  · have := hp A d B e C hh
    simp only [okPair, Bool.and_eq_true] at this
    rw [hc] at this
    have := this.1.1.2
    simpa [Bool.or_eq_true] using this
  · have := hp A d B e C hh
    simp only [okPair, Bool.and_eq_true] at this
    rw [hc1, hc2] at this
    simpa using this.1.2
  · have := hp A d B e C hh
    simp only [okPair, Bool.and_eq_true] at this
    have h3 := this.2
    rw [hc1, hc2, hc3] at h3
    simp only [Bool.not_false, Bool.and_self, Bool.not_true, Bool.false_or, Bool.or_eq_true, Bool.and_eq_true, List.all_eq_true, decide_eq_true_eq] at h3
    rcases h3 with h3 | h3
    · exact .inl h3
    · refine .inr ⟨by simpa using h3.1.1, fun q hq t ht => ?_, h3.2⟩
      have := h3.1.2 q hq
      rw [ht] at this
      simpa using this

theorem AW_draw {P : Program} {n id : Nat} {ops : Array Oper} {ds : List DIn} {masks : List Nat} {Q : Post} {fr : List PV} {σ : List AObj} (hm : P.follows .mixedOrders = true) (hc : chkDraw P ops ds masks = true) (h : ADSeq P ds [] (Q .normal) fr σ) : AW P n (.region id ops true) Q fr σ := by
  intro g0 a w hn hr
  refine wp_region_any hm ?_
  obtain ⟨ρ, hst, hstep, hf⟩ := hr
  obtain ⟨d1, d2⟩ := hst.drew
  have hr' : Rel g0 fr σ a { w with drawn := w.drawn + 1 } := ⟨ρ, d1, hstep.trans d2, hf.step d2⟩
  have hno : ∀ i, LL (Array.replicate ops.size false) i = false := by
    intro i
    unfold LL
    simp only [Array.getD_eq_getD_getElem?]
    rcases Nat.lt_or_ge i ops.size with hi | hi
    · simp [hi]
    · simp [hi]
  have hI : Inv P ds (fun i k => preB masks i k = true) (Q .normal) g0 fr (Array.replicate ops.size false) a { w with drawn := w.drawn + 1 } [] ds σ [] := by
    refine ⟨rfl, fun r hr => by simp at hr, fun i hi => ?_, fun i hi => ?_, fun e he => by simp at he, by simp, by simp, ?_, h, fun A r B hh => by simp at hh⟩
    · rw [hno] at hi; cases hi
    · rw [hno] at hi; cases hi
    · exact RelH.nil.2 hr'
  obtain ⟨H, pst, σ', E, hI', hp⟩ := settle (chkDraw_ok hc) ds.length _ _ _ _ (Nat.le_refl _) hI
  refine drawn_sound (chkDraw_ok hc) (K := Q .normal) (g0 := g0) (fr0 := fr) (Q := lift g0 Q) (fun fr σ a w hr hq => ⟨.normal, fr, σ, rfl, hr, hq⟩) ops.size _ a _ H pst σ' E (by simp) ?_ hI' hp
  unfold cnt
  rw [List.countP_eq_length.2]
  · simp
  · intro i _; simp [hno]

/-! ### Code -/
/-- What is done to the frame and the state without any code. kill: these slots are forgotten. fz: the slice in this slot is nobody's any more, its object (the last one) goes away.
nv: the versions of the function's own objects begin at 0 again; what refers to an older version is forgotten; its objects at the end to which nothing refers go away, and elements behind all references are forgotten.
ow: a slice that is nil (in a slot, or in a cell of the struct that a slot points to) is told as an object without cells. -/
inductive Gh where
  | kill (ts : List Nat)
  | fz (t : Nat)
  | nv
  | ow (t : Nat) (j : Option Nat) (sz : Nat)

inductive AC where
  | skip
  | seq (a b : AC)
  | cond (c : Operand) (t e : AC)
  | block (id : Nat) (c : AC)
  | loop (c : AC)
  | exit (id : Nat)
  | ret
  | reg (xs : List AIn)
  | draw (ds : List DIn) (masks : List Nat)
  | ghost (g : Gh) (a : AC)
  | post (a : AC) (g : Gh)

def isBad : List AIn → Bool
  | [⟨_, .op .bad, none⟩] => true
  | _ => false
theorem isBad_no {P : Program} {xs : List AIn} {K : List PV → List AObj → Prop} {fr : List PV} {σ : List AObj} (h : isBad xs = true) (k : ASeq P xs K fr σ) : False := by
  unfold isBad at h
  split at h
  · simp [ASeq, guardA, ai, ai2] at k
  · cases h
def chk (P : Program) : Code → AC → Bool
  | c, .ghost _ a => chk P c a
  | c, .post a _ => chk P c a
  | .skip, .skip => true
  | .seq a b, .seq x y => chk P a x && chk P b y
  | .cond c t e, .cond c' t' e' => oeq c c' && chk P t t' && chk P e e'
  | .block id c, .block id' c' => id == id' && chk P c c'
  | .loop c, .loop c' => chk P c c'
  | .exit id, .exit id' => id == id'
  | .ret, .ret => true
  | .region _ ops false, .reg xs => chkIns P ops ops.toList xs
  | .refuse _, .reg xs => isBad xs
  | .region _ ops true, .draw ds masks => chkDraw P ops ds masks
  | _, _ => false

/-- The same over the checked code: whatever machine code it is the check of. -/
def AE (P : Program) (n : Nat) (ac : AC) (Q : Post) (fr : List PV) (σ : List AObj) : Prop := ∀ c, chk P c ac = true → AW P n c Q fr σ

section
variable {P : Program} {n : Nat} {Q : Post} {fr : List PV} {σ : List AObj}
theorem AE.imp {ac : AC} {fr' : List PV} {σ' : List AObj} (h : Imp n fr σ fr' σ') (k : AE P n ac Q fr' σ') : AE P n ac Q fr σ := fun c hc => (k c hc).imp h
theorem AE.mono {ac : AC} {Q' : Post} (h : AE P n ac Q fr σ) (k : ∀ x fr σ, Q x fr σ → Q' x fr σ) : AE P n ac Q' fr σ := fun c hc => (h c hc).mono k
theorem chk_ghost {c : Code} {g : Gh} {a : AC} : chk P c (.ghost g a) = chk P c a := by cases c <;> simp [chk]
theorem AE_ghost {g : Gh} {a : AC} {fr' : List PV} {σ' : List AObj} (h : Imp n fr σ fr' σ') (k : AE P n a Q fr' σ') : AE P n (.ghost g a) Q fr σ := fun c hc => by
  rw [chk_ghost] at hc
  exact (k c hc).imp h
theorem chk_post {c : Code} {g : Gh} {a : AC} : chk P c (.post a g) = chk P c a := by cases c <;> simp [chk]
theorem AE_post {g : Gh} {a : AC} (h : AE P n a (thenA (fun fr σ => ∃ fr' σ', Imp n fr σ fr' σ' ∧ Q .normal fr' σ') Q) fr σ) : AE P n (.post a g) Q fr σ := fun c hc => by
  rw [chk_post] at hc
  intro g0 ac w hn hr
  refine wp_mono (h c hc g0 ac w hn hr) ?_
  rintro e a1 w1 ⟨z, fr1, σ1, rfl, hr1, hq⟩
  cases z with
  | normal => obtain ⟨fr', σ', hi, hq⟩ := hq; exact ⟨.normal, fr', σ', rfl, hi g0 a1 w1 hn hr1, hq⟩
  | exit id => exact ⟨.exit id, fr1, σ1, rfl, hr1, hq⟩
  | ret => exact ⟨.ret, fr1, σ1, rfl, hr1, hq⟩
theorem AE_skip (h : Q .normal fr σ) : AE P n .skip Q fr σ := fun c hc => by
  cases c <;> simp [chk] at hc; exact AW_skip h
theorem AE_exit {id : Nat} (h : Q (.exit id) fr σ) : AE P n (.exit id) Q fr σ := fun c hc => by
  cases c <;> simp [chk] at hc; subst hc; exact AW_exit h
theorem AE_ret (h : Q .ret fr σ) : AE P n .ret Q fr σ := fun c hc => by
  cases c <;> simp [chk] at hc; exact AW_ret h
theorem AE_seq {x y : AC} (h : AE P n x (thenA (AE P n y Q) Q) fr σ) : AE P n (.seq x y) Q fr σ := fun c hc => by
  cases c <;> simp [chk] at hc
  exact AW_seq ((h _ hc.1).mono fun z fr σ hz => by
    cases z with
    | normal => exact hz _ hc.2
    | exit id => exact hz
    | ret => exact hz)
theorem AE_block {id : Nat} {x : AC} (h : AE P n x (blockA id Q) fr σ) : AE P n (.block id x) Q fr σ := fun c hc => by
  cases c <;> simp [chk] at hc
  obtain ⟨rfl, hc⟩ := hc
  exact AW_block (h _ hc)
theorem AE_cond {c : Operand} {x y : AC} {b : Bool} (hv : aev fr c = .val (.bool b)) (hx : b = true → AE P n x Q fr σ) (hy : b = false → AE P n y Q fr σ) : AE P n (.cond c x y) Q fr σ := fun c' hc => by
  cases c' <;> simp [chk] at hc
  obtain ⟨⟨h1, h2⟩, h3⟩ := hc
  obtain rfl := oeq_eq h1
  exact AW_cond hv (fun h => hx h _ h2) (fun h => hy h _ h3)
theorem AE_loop {x : AC} (h : AE P n x (thenA (AE P n (.loop x) Q) Q) fr σ) : AE P n (.loop x) Q fr σ := fun c hc => by
  cases c <;> simp [chk] at hc
  exact AW_loop ((h _ hc).mono fun z fr σ hz => by
    cases z with
    | normal => exact hz _ (by simp [chk, hc])
    | exit id => exact hz
    | ret => exact hz)
theorem AE_reg {xs : List AIn} (h : ASeq P xs (Q .normal) fr σ) : AE P n (.reg xs) Q fr σ := fun c hc => by
  cases c <;> try (simp [chk] at hc; done)
  · rename_i id ops d
    cases d
    · exact AW_reg hc h
    · cases hc
  · simp only [chk] at hc
    exact (isBad_no hc h).elim
theorem AE_draw {ds : List DIn} {masks : List Nat} (hm : P.follows .mixedOrders = true) (h : ADSeq P ds [] (Q .normal) fr σ) : AE P n (.draw ds masks) Q fr σ := fun c hc => by
  cases c <;> try (simp [chk] at hc; done)
  rename_i id ops d
  cases d
  · cases hc
  · exact AW_draw hm hc h
end

end Aw
end Go.Proofs.Ytoliadfdklfmfaa
