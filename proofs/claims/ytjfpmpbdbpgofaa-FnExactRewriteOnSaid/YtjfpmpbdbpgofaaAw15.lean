/- Regions whose order is open: the rule. -/
import Derived.Test.YtjfpmpbdbpgofaaAw14
set_option linter.unusedVariables false
set_option linter.unusedSimpArgs false
namespace Go.Proofs.Ytjfpmpbdbpgofaa
namespace Aw

/-- An instruction of an open region: its number among the operations; the numbers of those that are asked again behind it. -/
structure DIn where
  idx : Nat
  x : AIn
  rc : List Nat := []

/-- It gives the same at the new state. -/
def rc1 (fr : List PV) (σ : List AObj) (y : AIn) : Prop :=
  match guardA fr y.g with
  | some true => match y.s, y.dst with
    | .op i, some t => match fr[t]? with
      | some p => ai fr σ i = some (p, σ)
      | none => False
    | _, _ => False
  | some false => True
  | none => False
def rcs (fr : List PV) (σ : List AObj) : List DIn → List Nat → Prop
  | [], _ => True
  | y :: h, rc => (if rc.contains y.idx then rc1 fr σ y.x else True) ∧ rcs fr σ h rc

/-- Instructions of an open region, in one order that its edges allow (h: those behind us). -/
def ADSeq (P : Program) : List DIn → List DIn → (List PV → List AObj → Prop) → List PV → List AObj → Prop
  | [], _, K, fr, σ => K fr σ
  | d :: ds, h, K, fr, σ =>
    match guardA fr d.x.g with
    | some true =>
      match d.x.s with
      | .op i => match ai fr σ i with
        | some (p, σ') => (if i.eff then rcs fr σ' h d.rc else True) ∧ ADSeq P ds (d :: h) K (setD fr d.x.dst p) σ'
        | none => False
      | .call f args false => ACallV P (aev fr f) (args.map (aev fr)) σ fun p σ' => rcs fr σ' h d.rc ∧ ADSeq P ds (d :: h) K (setD fr d.x.dst p) σ'
      | .call f args true => ∃ v, (∀ τ, ACallV P (aev fr f) (args.map (aev fr)) τ fun p τ' => p = v ∧ τ' = τ) ∧ ADSeq P ds (d :: h) K (setD fr d.x.dst v) σ
    | some false => ADSeq P ds (d :: h) K (setD fr d.x.dst (.val undef)) σ
    | none => False

theorem rcs_mem {fr : List PV} {σ : List AObj} {rc : List Nat} : ∀ {h : List DIn} {y : DIn}, rcs fr σ h rc → y ∈ h → y.idx ∈ rc → rc1 fr σ y.x
  | [], _, _, hy, _ => by simp at hy
  | z :: h, y, hr, hy, hi => by
    rcases List.mem_cons.1 hy with rfl | hy
    · have := hr.1; rwa [if_pos (by simpa using hi)] at this
    · exact rcs_mem hr.2 hy hi

structure Rec where
  d : DIn
  v : PV
def frOf (fr0 : List PV) (H : List Rec) : List PV := H.foldl (fun fr r => setD fr r.d.x.dst r.v) fr0

theorem setD_length (fr : List PV) (d : Option Nat) (p : PV) : (setD fr d p).length = fr.length := by cases d <;> simp [setD]
theorem setD_get_ne {fr : List PV} {d : Option Nat} {p : PV} {t : Nat} (h : d ≠ some t) : (setD fr d p)[t]? = fr[t]? := by
  cases d with
  | none => rfl
  | some d => simp only [setD]; rw [List.getElem?_set_ne (fun e => h (by rw [e]))]
theorem setD_get_eq {fr : List PV} {p : PV} {t : Nat} (h : t < fr.length) : (setD fr (some t) p)[t]? = some p := by simp [setD, h]
theorem frOf_length (fr0 : List PV) (H : List Rec) : (frOf fr0 H).length = fr0.length := by
  unfold frOf
  induction H generalizing fr0 with
  | nil => rfl
  | cons r H ih => rw [List.foldl_cons, ih, setD_length]
theorem frOf_append (fr0 : List PV) (A B : List Rec) : frOf fr0 (A ++ B) = frOf (frOf fr0 A) B := by unfold frOf; rw [List.foldl_append]
/-- A slot is as its last writer left it. -/
theorem frOf_get_congr {fr fr' : List PV} {t : Nat} (h : fr[t]? = fr'[t]?) (hl : fr.length = fr'.length) : ∀ H : List Rec, (frOf fr H)[t]? = (frOf fr' H)[t]? := by
  intro H
  induction H generalizing fr fr' with
  | nil => exact h
  | cons r H ih =>
    refine ih ?_ (by simp [setD_length, hl])
    show (setD fr r.d.x.dst r.v)[t]? = (setD fr' r.d.x.dst r.v)[t]?
    by_cases hd : r.d.x.dst = some t
    · rw [hd]
      rcases Nat.lt_or_ge t fr.length with h1 | h1
      · rw [setD_get_eq h1, setD_get_eq (by omega)]
      · rw [List.getElem?_eq_none (by rw [setD_length]; omega), List.getElem?_eq_none (by rw [setD_length]; omega)]
    · rw [setD_get_ne hd, setD_get_ne hd, h]
theorem frOf_skip {fr : List PV} {t : Nat} {H : List Rec} (h : ∀ r ∈ H, r.d.x.dst ≠ some t) : (frOf fr H)[t]? = fr[t]? := by
  induction H generalizing fr with
  | nil => rfl
  | cons r H ih =>
    have : frOf fr (r :: H) = frOf (setD fr r.d.x.dst r.v) H := rfl
    rw [this, ih fun q hq => h q (List.mem_cons_of_mem _ hq), setD_get_ne (h r (List.mem_cons_self ..))]
/-- Leaving out what does not write a slot leaves the slot. -/
theorem frOf_filter {fr0 : List PV} {t : Nat} {L : Rec → Bool} : ∀ {H : List Rec}, (∀ r ∈ H, r.d.x.dst = some t → L r = true) → (frOf fr0 (H.filter L))[t]? = (frOf fr0 H)[t]? := by
  intro H
  induction H generalizing fr0 with
  | nil => intro _; rfl
  | cons r H ih =>
    intro h
    have ih' := fun fr => ih (fr0 := fr) fun q hq hd => h q (List.mem_cons_of_mem _ hq) hd
    rw [List.filter_cons]
    have e : frOf fr0 (r :: H) = frOf (setD fr0 r.d.x.dst r.v) H := rfl
    split
    · have e2 : frOf fr0 (r :: H.filter L) = frOf (setD fr0 r.d.x.dst r.v) (H.filter L) := rfl
      rw [e, e2]; exact ih' _
    · rename_i hL
      have hne : r.d.x.dst ≠ some t := fun hd => hL (h r (List.mem_cons_self ..) hd)
      rw [e, ih']
      exact (frOf_get_congr (by rw [setD_get_ne hne]) (by rw [setD_length]) H)

/-- Do two instructions name one slot, one of them writing it? -/
def conflict (d e : AIn) : Bool := (match d.dst with | some t => e.reads.contains t || decide (e.dst = some t) | none => false) || (match e.dst with | some t => d.reads.contains t | none => false)

/-- What is asked of an open region. pre: what must stand ahead of an operation. -/
structure DOk (P : Program) (ops : Array Oper) (ds : List DIn) (pre : Nat → Nat → Prop) : Prop where
  lt : ∀ d ∈ ds, d.idx < ops.size
  cover : ∀ i, i < ops.size → ∃ d ∈ ds, d.idx = i
  nodup : (ds.map DIn.idx).Nodup
  chk : ∀ d ∈ ds, ∃ o, ops[d.idx]? = some o ∧ chkIn P ops o d.x = true
  pred : ∀ i k, pre i k → ∃ o e, ops[i]? = some o ∧ e ∈ o.after ∧ Region.binds .any e = true ∧ e.on < i ∧ (e.on = k ∨ pre e.on k)
  edges : ∀ (i : Nat) o, ops[i]? = some o → ∀ e ∈ o.after, Region.binds .any e = true → e.on < i
  conf : ∀ A d B e C, ds = A ++ d :: B ++ e :: C → conflict d.x e.x = true → pre e.idx d.idx
  effs : ∀ A d B e C, ds = A ++ d :: B ++ e :: C → d.x.eff = true → pre e.idx d.idx
  sens : ∀ A d B e C, ds = A ++ d :: B ++ e :: C → e.x.eff = true → d.x.eff = false → d.x.sens = true → pre e.idx d.idx ∨ (d.idx ∈ e.rc ∧ (∀ q ∈ d :: B, ∀ t, q.x.dst = some t → t ∉ d.x.reads) ∧ ∀ q ∈ B, q.x.dst ≠ d.x.dst)

def LL (listed : Array Bool) (i : Nat) : Bool := listed.getD i false
theorem mem_ready' {ops : Array Oper} {listed : Array Bool} {i : Nat} : i ∈ Region.ready .any ops listed ↔ i < ops.size ∧ listed.getD i true = false ∧ ∃ o, ops[i]? = some o ∧ ∀ e ∈ o.after, Region.binds .any e = true → LL listed e.on = true := by
  simp only [Region.ready, List.mem_filter, List.mem_range, Bool.and_eq_true, Bool.not_eq_true', LL]
  constructor
  · rintro ⟨h1, h2, h3⟩
    refine ⟨h1, h2, ops[i], by simp [h1], fun e he hb => ?_⟩
    rw [Array.getElem?_eq_getElem h1] at h3
    simp only [Option.map_some, Option.getD_some, Array.all_eq_true'] at h3
    have := h3 e he
    simpa [hb] using this
  · rintro ⟨h1, h2, o, h3, h4⟩
    refine ⟨h1, h2, ?_⟩
    rw [h3]
    simp only [Option.map_some, Option.getD_some, Array.all_eq_true']
    intro e he
    cases hb : Region.binds .any e with
    | false => simp
    | true => simpa using h4 e he hb

/-- What is known of those that were taken ahead. -/
def Ahead (P : Program) (fr : List PV) (σ : List AObj) (r : Rec) : Prop :=
  (guardA fr r.d.x.g = some true ∧ ∃ i, r.d.x.s = .op i ∧ ai fr σ i = some (r.v, σ)) ∨ (guardA fr r.d.x.g = some true ∧ ∃ f args, r.d.x.s = .call f args true ∧ ∀ τ, ACallV P (aev fr f) (args.map (aev fr)) τ fun p τ' => p = r.v ∧ τ' = τ) ∨ (guardA fr r.d.x.g = some false ∧ r.v = .val undef)
def Advanced (P : Program) (K : List PV → List AObj → Prop) (ds h : List DIn) (fr : List PV) (σ : List AObj) : Prop :=
  ∃ (H : List Rec) (post : List DIn), ds = H.map Rec.d ++ post ∧ (∀ r ∈ H, r.d.x.eff = false) ∧ (post = [] ∨ ∃ e rest, post = e :: rest ∧ e.x.eff = true) ∧ ADSeq P post ((H.map Rec.d).reverse ++ h) K (frOf fr H) σ ∧
      ∀ A r B, H = A ++ r :: B → Ahead P (frOf fr A) σ r

/-- The instructions that have no effect are taken at once. -/
theorem advance {P : Program} {K : List PV → List AObj → Prop} : ∀ (ds h : List DIn) (fr : List PV) (σ : List AObj), ADSeq P ds h K fr σ → Advanced P K ds h fr σ
  | [], h, fr, σ, hs => ⟨[], [], rfl, fun r hr => by simp at hr, .inl rfl, hs, fun A r B hh => by simp at hh⟩
  | d :: ds, h, fr, σ, hs => by
    by_cases he : d.x.eff = true
    · exact ⟨[], d :: ds, rfl, fun r hr => by simp at hr, .inr ⟨d, ds, rfl, he⟩, hs, fun A r B hh => by simp at hh⟩
    · have he : d.x.eff = false := by simpa using he
      have step : ∀ v, ADSeq P ds (d :: h) K (setD fr d.x.dst v) σ → Ahead P fr σ ⟨d, v⟩ → Advanced P K (d :: ds) h fr σ := by
        intro v hs' hv
        obtain ⟨H, post, h1, h2, h3, h4, h5⟩ := advance ds (d :: h) (setD fr d.x.dst v) σ hs'
        refine ⟨⟨d, v⟩ :: H, post, by simp [h1], fun r hr => ?_, h3, by simp; exact h4, fun A r B hh => ?_⟩
        · rcases List.mem_cons.1 hr with rfl | hr
          · exact he
          · exact h2 r hr
        · cases A with
          | nil => simp at hh; obtain ⟨rfl, rfl⟩ := hh; exact hv
          | cons q A =>
            simp at hh
            obtain ⟨rfl, hh⟩ := hh
            exact h5 A r B hh
      simp only [ADSeq] at hs
      split at hs
      · rename_i hg
        split at hs
        · rename_i i hi
          split at hs
          · rename_i p σ' ha
            have hie : i.eff = false := by simpa [AIn.eff, hi] using he
            have hσ := ai_noeff hie ha
            subst hσ
            exact step p hs.2 (.inl ⟨hg, i, hi, ha⟩)
          · exact hs.elim
        · rename_i f args hc
          simp [AIn.eff, hc] at he
        · rename_i f args hc
          obtain ⟨v, h1, h2⟩ := hs
          exact step v h2 (.inr (.inl ⟨hg, f, args, hc, h1⟩))
      · rename_i hg
        exact step (.val undef) hs (.inr (.inr ⟨hg, rfl⟩))
      · exact hs.elim

theorem guard_congr {fr fr' : List PV} {x : AIn} (h : ∀ t ∈ x.reads, fr[t]? = fr'[t]?) : guardA fr x.g = guardA fr' x.g := by
  cases hg : x.g with
  | none => rfl
  | some q =>
    obtain ⟨t, w⟩ := q
    simp only [guardA]
    rw [h t (by simp [AIn.reads, hg])]
theorem step_congr {fr fr' : List PV} {x : AIn} (h : ∀ t ∈ x.reads, fr[t]? = fr'[t]?) : ∀ t ∈ x.s.slots, fr[t]? = fr'[t]? := fun t ht => h t (by simp [AIn.reads, ht])

/-- The state of a run through an open region. -/
structure Inv (P : Program) (ds : List DIn) (pre : Nat → Nat → Prop) (K : List PV → List AObj → Prop) (g0 : G) (fr0 : List PV) (listed : Array Bool) (a : Act) (w : World) (H : List Rec) (pst : List DIn) (σ : List AObj) : Prop where
  split : ds = H.map Rec.d ++ pst
  post : pst = [] ∨ ∃ e rest, pst = e :: rest ∧ e.x.eff = true ∧ LL listed e.idx = false
  effs : ∀ r ∈ H, r.d.x.eff = true → LL listed r.d.idx = true
  mem : ∀ i, LL listed i = true → ∃ r ∈ H, r.d.idx = i
  down : ∀ i, LL listed i = true → ∀ k, pre i k → LL listed k = true
  rel : Rel g0 (frOf fr0 (H.filter fun r => LL listed r.d.idx)) σ a w
  seq : ADSeq P pst (H.map Rec.d).reverse K (frOf fr0 H) σ
  pend : ∀ A r B, H = A ++ r :: B → LL listed r.d.idx = false → Ahead P (frOf fr0 A) σ r

section
variable {P : Program} {ops : Array Oper} {ds : List DIn} {pre : Nat → Nat → Prop} {K : List PV → List AObj → Prop} {g0 : G} {fr0 : List PV} {listed : Array Bool} {a : Act} {w : World} {H : List Rec} {post : List DIn} {σ : List AObj}

theorem conflict_of_write {d e : AIn} {t : Nat} (hd : d.dst = some t) (he : t ∈ e.reads ∨ e.dst = some t) : conflict d e = true := by
  unfold conflict
  rw [hd]
  rcases he with h | h <;> simp [h]
theorem conflict_of_read {d e : AIn} {t : Nat} (he : e.dst = some t) (hd : t ∈ d.reads) : conflict d e = true := by
  unfold conflict
  rw [he]
  simp [hd]

/-- What an operation that was taken ahead reads is, when it runs, as it was then. -/
theorem Inv.reads (hd : DOk P ops ds pre) (hI : Inv P ds pre K g0 fr0 listed a w H post σ) {A B : List Rec} {r : Rec} (hH : H = A ++ r :: B) (hn : LL listed r.d.idx = false) (hpre : ∀ k, pre r.d.idx k → LL listed k = true) :
    ∀ t, (t ∈ r.d.x.reads ∨ r.d.x.dst = some t) → (frOf fr0 (H.filter fun r => LL listed r.d.idx))[t]? = (frOf fr0 A)[t]? := by
  intro t ht
  have hA : ∀ q ∈ A, q.d.x.dst = some t → LL listed q.d.idx = true := by
    intro q hq hqd
    obtain ⟨A1, A2, rfl⟩ := List.append_of_mem hq
    refine hpre _ (hd.conf (A1.map Rec.d) q.d (A2.map Rec.d) r.d (B.map Rec.d ++ post) (by rw [hI.split, hH]; simp) (conflict_of_write hqd ht))
  have hB : ∀ q ∈ B, q.d.x.dst = some t → LL listed q.d.idx = false := by
    intro q hq hqd
    obtain ⟨B1, B2, rfl⟩ := List.append_of_mem hq
    have hc : conflict r.d.x q.d.x = true := by
      rcases ht with h | h
      · exact conflict_of_read hqd h
      · exact conflict_of_write h (.inr hqd)
    have hp := hd.conf (A.map Rec.d) r.d (B1.map Rec.d) q.d (B2.map Rec.d ++ post) (by rw [hI.split, hH]; simp) hc
    cases hl : LL listed q.d.idx with
    | false => rfl
    | true => exact absurd (hI.down _ hl _ hp) (by rw [hn]; simp)
  have h1 : H.filter (fun r => LL listed r.d.idx) = A.filter (fun r => LL listed r.d.idx) ++ B.filter (fun r => LL listed r.d.idx) := by
    rw [hH, List.filter_append, List.filter_cons, if_neg (by rw [hn]; simp)]
  rw [h1, frOf_append, frOf_skip (fun q hq => ?_), frOf_filter hA]
  rw [List.mem_filter] at hq
  exact fun hqd => absurd hq.2 (by rw [hB q hq.1 hqd]; simp)

theorem idx_inj (hd : DOk P ops ds pre) {A B : List DIn} {d e : DIn} (h : ds = A ++ d :: B) (he : e ∈ A ∨ e ∈ B) : e.idx ≠ d.idx := by
  have hn := hd.nodup
  rw [h, List.map_append, List.map_cons] at hn
  have hn := List.nodup_append.1 hn
  intro hx
  rcases he with he | he
  · exact hn.2.2 e.idx (List.mem_map.2 ⟨e, he, rfl⟩) d.idx (List.mem_cons_self ..) hx
  · have := (List.nodup_cons.1 hn.2.1).1
    exact this (List.mem_map.2 ⟨e, he, hx⟩)

theorem LL_set {i k : Nat} (h : i < listed.size) : LL (listed.setIfInBounds i true) k = if k = i then true else LL listed k := by
  unfold LL
  by_cases hk : k = i
  · subst hk; simp [h]
  · rw [if_neg hk]
    exact getD_set_ne false (fun e => hk e.symm)

end

end Aw
end Go.Proofs.Ytjfpmpbdbpgofaa
