/- Regions whose order is open: the rule holds. -/
import Derived.Test.YtoliadfdklfmfaaAw15
set_option linter.unusedVariables false
set_option linter.unusedSimpArgs false
namespace Go.Proofs.Ytoliadfdklfmfaa
namespace Aw

theorem split_cases {α : Type} {X Y A B : List α} {r : α} (h : X ++ Y = A ++ r :: B) : (∃ B0, X = A ++ r :: B0 ∧ B = B0 ++ Y) ∨ (∃ A2, A = X ++ A2 ∧ Y = A2 ++ r :: B) := by
  rcases List.append_eq_append_iff.1 h with ⟨C, h1, h2⟩ | ⟨C, h1, h2⟩
  · exact .inr ⟨C, h1, h2⟩
  · cases C with
    | nil => simp at h2; exact .inr ⟨[], by simpa using h1.symm, by simpa using h2.symm⟩
    | cons c C => simp at h2; obtain ⟨rfl, h2⟩ := h2; exact .inl ⟨C, h1, h2⟩

section
variable {P : Program} {ops : Array Oper} {ds : List DIn} {pre : Nat → Nat → Prop} {K : List PV → List AObj → Prop} {g0 : G} {fr0 : List PV}

def cnt (n : Nat) (listed : Array Bool) : Nat := (List.range n).countP fun i => !LL listed i
theorem cnt_set {n i : Nat} {listed : Array Bool} (hi : i < n) (hs : listed.size = n) (hn : LL listed i = false) : cnt n (listed.setIfInBounds i true) + 1 = cnt n listed := by
  unfold cnt
  have h1 : (List.range n).countP (fun k => !LL (listed.setIfInBounds i true) k) = (List.range n).countP (fun k => !LL listed k && !(k == i)) := by
    congr 1; funext k
    rw [LL_set (by omega)]
    by_cases hk : k = i
    · subst hk; simp
    · simp [hk]
  rw [h1]
  have key : ∀ l : List Nat, l.Nodup → i ∈ l → l.countP (fun k => !LL listed k && !(k == i)) + 1 = l.countP fun k => !LL listed k := by
    intro l
    induction l with
    | nil => intro _ h; simp at h
    | cons x l ih =>
      intro hnd hm
      have hnd' := List.nodup_cons.1 hnd
      rw [List.countP_cons, List.countP_cons]
      by_cases hx : x = i
      · subst hx
        have : l.countP (fun k => !LL listed k && !(k == x)) = l.countP fun k => !LL listed k := by
          apply List.countP_congr
          intro k hk
          have : k ≠ x := fun e => hnd'.1 (e ▸ hk)
          simp [this]
        rw [this]; simp [hn]
      · have := ih hnd'.2 (by rcases List.mem_cons.1 hm with h | h; exact absurd h.symm hx; exact h)
        have hxx : (x == i) = false := by simpa using hx
        rw [hxx]
        simp only [Bool.not_false, Bool.and_true]
        omega
  exact key _ List.nodup_range (by simpa using hi)

/-- What was known of one that was taken ahead is still known when an effect has come. -/
theorem ahead_keeps (hd : DOk P ops ds pre) {listed : Array Bool} {A B : List Rec} {r : Rec} {d : DIn} {rest : List DIn} {σ σ' : List AObj} (hH : ds = (A ++ r :: B).map Rec.d ++ d :: rest) (he : d.x.eff = true) (hre : r.d.x.eff = true → LL listed r.d.idx = true) (hrn : LL listed r.d.idx = false)
    (hpre : ∀ k, pre d.idx k → LL listed k = true) (hrc : rcs (frOf fr0 (A ++ r :: B)) σ' ((A ++ r :: B).map Rec.d).reverse d.rc) (hah : Ahead P (frOf fr0 A) σ r) : Ahead P (frOf fr0 A) σ' r := by
  rcases hah with ⟨g1, i0, g2, g3⟩ | hah
  · refine .inl ⟨g1, i0, g2, ?_⟩
    have hie : i0.eff = false := by
      cases hh : i0.eff with
      | false => rfl
      | true =>
        have := hre (by simp [AIn.eff, g2, hh])
        rw [hrn] at this; cases this
    cases hse : i0.sens with
    | false => exact ai_nosens hie hse g3
    | true =>
      rcases hd.sens (A.map Rec.d) r.d (B.map Rec.d) d rest (by rw [hH]; simp) he (by simp [AIn.eff, g2, hie]) (by simp [AIn.sens, g2, hse]) with hp | ⟨q1, q2, q3⟩
      · exact absurd (hpre _ hp) (by rw [hrn]; simp)
      · have hq := rcs_mem hrc (List.mem_reverse.2 (List.mem_map.2 ⟨r, by simp, rfl⟩)) q1
        have hrd : ∀ t ∈ r.d.x.reads, (frOf fr0 (A ++ r :: B))[t]? = (frOf fr0 A)[t]? := by
          intro t ht
          rw [frOf_append, frOf_skip]
          intro q hq hqd
          rcases List.mem_cons.1 hq with rfl | hq
          · exact q2 _ (List.mem_cons_self ..) t hqd ht
          · exact q2 q.d (List.mem_cons_of_mem _ (List.mem_map.2 ⟨q, hq, rfl⟩)) t hqd ht
        unfold rc1 at hq
        rw [guard_congr hrd, g1, g2] at hq
        simp only at hq
        split at hq
        · rename_i i1 t heq1 heq2
          injection heq1 with heq1; subst heq1
          split at hq
          · rename_i p' hp'
            have hc := ai_congr (σ := σ') (i := i0) (fr := frOf fr0 (A ++ r :: B)) (fr' := frOf fr0 A) (fun t ht => hrd t (by simp [AIn.reads, AStep.slots, g2, ht]))
            rw [hc] at hq
            have hpv : p' = r.v := by
              have hl : t < (frOf fr0 A).length := by
                have := (List.getElem?_eq_some_iff.1 hp').1
                rw [frOf_length] at this ⊢; exact this
              rw [frOf_append] at hp'
              have e4 : frOf (frOf fr0 A) (r :: B) = frOf (setD (frOf fr0 A) r.d.x.dst r.v) B := rfl
              rw [e4, frOf_skip (fun q hq hqd => q3 q.d (List.mem_map.2 ⟨q, hq, rfl⟩) (by rw [hqd, heq2])), heq2, setD_get_eq hl] at hp'
              injection hp' with hp'; exact hp'.symm
            rw [hpv] at hq; exact hq
          · exact hq.elim
        · exact hq.elim
  · rcases hah with ⟨g1, f, args, g2, g3⟩ | hah
    · exact .inr (.inl ⟨g1, f, args, g2, g3⟩)
    · exact .inr (.inr hah)
/-- The instructions without effect are taken, and the allocations that have run. -/
theorem settle (hd : DOk P ops ds pre) {listed : Array Bool} {a : Act} {w : World} : ∀ (n : Nat) (H : List Rec) (pst : List DIn) (σ : List AObj) (E : List Ear), pst.length ≤ n → Inv P ds pre K g0 fr0 listed a w H pst σ E →
    ∃ H' pst' σ' E', Inv P ds pre K g0 fr0 listed a w H' pst' σ' E' ∧ Pst listed pst' := by
  intro n
  induction n with
  | zero =>
    intro H pst σ E hn hI
    exact ⟨H, pst, σ, E, hI, .inl (List.eq_nil_of_length_eq_zero (by omega))⟩
  | succ n ih =>
    intro H pst σ E hn hI
    obtain ⟨H2, post2, k1, k2, k3, k4, k5⟩ := advance pst _ _ _ hI.seq
    have hspl : ds = (H ++ H2).map Rec.d ++ post2 := by rw [hI.split, k1]; simp
    have inP : ∀ e ∈ E, e.d ∈ post2 := by
      intro e he
      obtain ⟨h1, _, h3, _⟩ := hI.ear e he
      rw [k1] at h1
      rcases List.mem_append.1 h1 with h1 | h1
      · obtain ⟨r, hr, hre⟩ := List.mem_map.1 h1
        have := k2 r hr
        rw [hre, h3] at this; simp [AIn.eff, AI.eff] at this
      · exact h1
    have un2 : ∀ r ∈ H2, LL listed r.d.idx = false := by
      intro r hr
      cases hl : LL listed r.d.idx with
      | false => rfl
      | true =>
        exfalso
        obtain ⟨A, B, hAB⟩ := List.append_of_mem hr
        have hs2 : ds = (H ++ A).map Rec.d ++ r.d :: (B.map Rec.d ++ post2) := by rw [hspl, hAB]; simp
        rcases hI.mem _ hl with ⟨q, hq, hqi⟩ | ⟨e, he, hei⟩
        · exact idx_inj hd hs2 (.inl (List.mem_map.2 ⟨q, by simp [hq], rfl⟩)) hqi
        · exact idx_inj hd hs2 (.inr (List.mem_append_right _ (inP e he))) hei
    have hfil : (H ++ H2).filter (fun r => LL listed r.d.idx) = H.filter (fun r => LL listed r.d.idx) := by
      rw [List.filter_append]
      have : H2.filter (fun r => LL listed r.d.idx) = [] := by rw [List.filter_eq_nil_iff]; intro r hr; rw [un2 r hr]; simp
      rw [this, List.append_nil]
    have hI1 : Inv P ds pre K g0 fr0 listed a w (H ++ H2) post2 σ E := by
      refine ⟨hspl, fun r hr he => ?_, fun i hi => ?_, hI.down, fun e he => ⟨inP e he, (hI.ear e he).2⟩, hI.ndb, hI.ndt, by rw [hfil]; exact hI.rel, ?_, fun A r B hh hn => ?_⟩
      · rcases List.mem_append.1 hr with hr | hr
        · exact hI.effs r hr he
        · rw [k2 r hr] at he; cases he
      · rcases hI.mem i hi with ⟨r, hr, h⟩ | h
        · exact .inl ⟨r, by simp [hr], h⟩
        · exact .inr h
      · rw [frOf_append]
        have : ((H ++ H2).map Rec.d).reverse = (H2.map Rec.d).reverse ++ (H.map Rec.d).reverse := by simp
        rw [this]; exact k4
      · rcases split_cases hh with ⟨B0, h1, h2⟩ | ⟨A2, h1, h2⟩
        · exact hI.pend A r B0 h1 hn
        · have := k5 A2 r B h2
          rw [h1, frOf_append]; exact this
    rcases k3 with h | ⟨e, rest, h1, h2⟩
    · exact ⟨_, _, _, _, hI1, .inl h⟩
    cases hle : LL listed e.idx with
    | false => exact ⟨_, _, _, _, hI1, .inr ⟨e, rest, h1, h2, hle⟩⟩
    | true =>
      subst h1
      have hs2 : ds = (H ++ H2).map Rec.d ++ e :: rest := hspl
      obtain ⟨q, hq, hqi⟩ : ∃ q ∈ E, q.d.idx = e.idx := by
        rcases hI1.mem _ hle with ⟨r, hr, hri⟩ | h
        · exact absurd hri (idx_inj hd hs2 (.inl (List.mem_map.2 ⟨r, hr, rfl⟩)))
        · exact h
      have hqd : q.d = e := idx_eq hd (by rw [hs2]; exact List.mem_append_right _ (inP q hq)) (by rw [hs2]; simp) hqi
      obtain ⟨_, _, hx, ty, hc⟩ := hI1.ear q hq
      rw [hqd] at hx
      have hseq := hI1.seq
      simp only [ADSeq, hx, guardA, ai, AI.eff, if_true] at hseq
      obtain ⟨hrc, hseq⟩ := hseq
      have qinj : ∀ u ∈ E, u.t = q.t → u = q := by
        have : ∀ (L : List Ear), (L.map Ear.t).Nodup → ∀ u ∈ L, ∀ v ∈ L, u.t = v.t → u = v := by
          intro L
          induction L with
          | nil => intro _ u hu; simp at hu
          | cons x L ihL =>
            intro hn u hu v hv huv
            rw [List.map_cons, List.nodup_cons] at hn
            rcases List.mem_cons.1 hu with hu1 | hu1 <;> rcases List.mem_cons.1 hv with hv1 | hv1
            · rw [hu1, hv1]
            · exact absurd (List.mem_map.2 ⟨v, hv1, by rw [← huv, hu1]⟩) hn.1
            · exact absurd (List.mem_map.2 ⟨u, hu1, by rw [huv, hv1]⟩) hn.1
            · exact ihL hn.2 u hu1 v hv1 huv
        exact fun u hu h => this E hI1.ndt u hu q hq h
      have binj : ∀ u ∈ E, u.b = q.b → u = q := by
        have : ∀ (L : List Ear), (L.map Ear.b).Nodup → ∀ u ∈ L, ∀ v ∈ L, u.b = v.b → u = v := by
          intro L
          induction L with
          | nil => intro _ u hu; simp at hu
          | cons x L ihL =>
            intro hn u hu v hv huv
            rw [List.map_cons, List.nodup_cons] at hn
            rcases List.mem_cons.1 hu with hu1 | hu1 <;> rcases List.mem_cons.1 hv with hv1 | hv1
            · rw [hu1, hv1]
            · exact absurd (List.mem_map.2 ⟨v, hv1, by rw [← huv, hu1]⟩) hn.1
            · exact absurd (List.mem_map.2 ⟨u, hu1, by rw [huv, hv1]⟩) hn.1
            · exact ihL hn.2 u hu1 v hv1 huv
        exact fun u hu h => this E hI1.ndb u hu q hq h
      have hrel := hI1.rel.absorb (b := q.b) (t := q.t) (z := q.z) (ty := ty) (Y := (E.filter fun u => decide (u.t ≠ q.t)).map Ear.b) (List.mem_map.2 ⟨q, hq, rfl⟩) hc
        (by
          rcases Nat.lt_or_ge q.t (frOf fr0 ((H ++ H2).filter fun r => LL listed r.d.idx)).length with hl | hl
          · exact .inl (eFr_at hq hI1.ndt hl)
          · exact .inr (by rw [eFr_length]; exact hl))
        (fun c => by
          constructor
          · intro hc
            obtain ⟨u, hu, rfl⟩ := List.mem_map.1 hc
            rw [List.mem_filter] at hu
            exact ⟨List.mem_map.2 ⟨u, hu.1, rfl⟩, fun hb => by have := binj u hu.1 hb; rw [this] at hu; simp at hu⟩
          · rintro ⟨hc, hne⟩
            obtain ⟨u, hu, rfl⟩ := List.mem_map.1 hc
            exact List.mem_map.2 ⟨u, List.mem_filter.2 ⟨hu, by simpa using fun ht => hne (by rw [qinj u hu ht])⟩, rfl⟩)
      have hfil3 : (H ++ H2 ++ [Rec.mk e (.ptr σ.length 0 0 0)]).filter (fun r => LL listed r.d.idx) = (H ++ H2).filter (fun r => LL listed r.d.idx) ++ [Rec.mk e (.ptr σ.length 0 0 0)] := by
        rw [List.filter_append, List.filter_cons, if_pos hle]; rfl
      have hfr3 : ∀ L : List Rec, frOf fr0 (L ++ [Rec.mk e (.ptr σ.length 0 0 0)]) = (frOf fr0 L).set q.t (.ptr σ.length 0 0 0) := by
        intro L
        rw [frOf_append]
        show setD _ e.x.dst _ = _
        rw [hx]; rfl
      refine ih (H ++ H2 ++ [Rec.mk e (.ptr σ.length 0 0 0)]) rest (σ ++ [.row (pvOf q.z).cells.length [pvOf q.z] 0]) (E.filter fun u => decide (u.t ≠ q.t)) ?_ ⟨by rw [hspl]; simp, fun r hr he => ?_, fun i hi => ?_, hI.down, fun u hu => ?_, hI1.ndb.sublist (List.filter_sublist.map _), hI1.ndt.sublist (List.filter_sublist.map _), ?_, ?_, fun A r B hh hn => ?_⟩
      · have : pst.length = H2.length + (e :: rest).length := by rw [k1]; simp
        simp at this; omega
      · rcases List.mem_append.1 hr with hr | hr
        · exact hI1.effs r hr he
        · simp at hr; subst hr; exact hle
      · rcases hI1.mem i hi with ⟨r, hr, h⟩ | ⟨u, hu, h⟩
        · exact .inl ⟨r, by rw [List.mem_append]; exact .inl hr, h⟩
        · by_cases ht : u.t = q.t
          · have := qinj u hu ht; subst this
            exact .inl ⟨Rec.mk e (.ptr σ.length 0 0 0), by simp, by show e.idx = i; rw [← hqi]; exact h⟩
          · exact .inr ⟨u, List.mem_filter.2 ⟨hu, by simpa using ht⟩, h⟩
      · rw [List.mem_filter] at hu
        obtain ⟨h1, h2, h3, h4⟩ := hI1.ear u hu.1
        refine ⟨?_, h2, h3, h4⟩
        rcases List.mem_cons.1 h1 with h1 | h1
        · exfalso
          rw [h1, hx] at h3
          injection h3 with h3
          injection h3 with h3
          have := hu.2
          simp at this
          exact this h3.symm
        · exact h1
      · rw [hfil3, hfr3, ← eFr_absorb hq hI1.ndt]; exact hrel
      · rw [hfr3]
        simp only [setD] at hseq
        have : ((H ++ H2 ++ [Rec.mk e (.ptr σ.length 0 0 0)]).map Rec.d).reverse = e :: ((H ++ H2).map Rec.d).reverse := by simp
        rw [this]; exact hseq
      · rcases split_cases hh with ⟨B0, h1, h2⟩ | ⟨A2, h1, h2⟩
        · have hrn := hn
          refine ahead_keeps hd (listed := listed) (B := B0) (d := e) (rest := rest) (by rw [← h1]; exact hspl) (by rw [hx]; rfl) (fun he => hI1.effs r (by rw [h1]; simp) he) hrn (fun k hk => hI.down _ hle _ hk) ?_ (hI1.pend A r B0 h1 hrn)
          rw [← h1]; exact hrc
        · cases A2 with
          | nil => simp at h2; obtain ⟨rfl, _⟩ := h2; simp only at hn; rw [hle] at hn; cases hn
          | cons x A2 => simp at h2

/-- Every order that an open region's edges allow comes to the same. -/
theorem drawn_sound (hd : DOk P ops ds pre) {Q : Exit → Act → World → Prop} (hQ : ∀ fr σ a w, Rel g0 fr σ a w → K fr σ → Q .normal a w) :
    ∀ (fuel : Nat) (listed : Array Bool) (a : Act) (w : World) (H : List Rec) (pst : List DIn) (σ : List AObj) (E : List Ear), listed.size = ops.size → cnt ops.size listed = fuel → Inv P ds pre K g0 fr0 listed a w H pst σ E → Pst listed pst → wpAny P .any ops Q fuel listed a w := by
  have all_listed : ∀ (listed : Array Bool), listed.size = ops.size → Region.ready .any ops listed = [] → ∀ i, i < ops.size → LL listed i = true := by
    intro listed hs hr i
    induction i using Nat.strongRecOn with
    | _ i ih =>
      intro hi
      cases hl : LL listed i with
      | true => rfl
      | false =>
        exfalso
        have : i ∈ Region.ready .any ops listed := mem_ready'.2 ⟨hi, by
          unfold LL at hl
          simp only [Array.getD_eq_getD_getElem?] at hl ⊢
          rw [Array.getElem?_eq_getElem (by omega)] at hl ⊢
          simpa using hl, ops[i], by simp [hi], fun e he hb => by
          have hlt := hd.edges i ops[i] (by simp [hi]) e he hb
          exact ih e.on hlt (by omega)⟩
        rw [hr] at this; simp at this
  have ends : ∀ (listed : Array Bool) (a : Act) (w : World) (H : List Rec) (pst : List DIn) (σ : List AObj) (E : List Ear), listed.size = ops.size → Inv P ds pre K g0 fr0 listed a w H pst σ E → Pst listed pst → (∀ i, i < ops.size → LL listed i = true) → Q .normal a w := by
    intro listed a w H pst σ E hs hI hpst hall
    have hp : pst = [] := by
      rcases hpst with h | ⟨e, rest, h, _, hn⟩
      · exact h
      · have := hall e.idx (hd.lt e (by rw [hI.split, h]; simp))
        rw [hn] at this; cases this
    subst hp
    have hf : H.filter (fun r => LL listed r.d.idx) = H := by
      rw [List.filter_eq_self]
      intro r hr
      exact hall _ (hd.lt r.d (by rw [hI.split]; simp; exact ⟨r, hr, rfl⟩))
    have hE : E = [] := by
      rcases List.eq_nil_or_concat E with h | ⟨E', e, h⟩
      · exact h
      · have := (hI.ear e (by rw [h]; simp)).1
        simp at this
    subst hE
    have hrel := hI.rel
    rw [hf] at hrel
    exact hQ _ _ _ _ (RelH.nil.1 hrel) hI.seq
  intro fuel
  induction fuel with
  | zero =>
    intro listed a w H pst σ E hs hc hI hpst
    have hall : ∀ i, i < ops.size → LL listed i = true := by
      intro i hi
      unfold cnt at hc
      rw [List.countP_eq_zero] at hc
      have := hc i (by simpa using hi)
      simpa using this
    refine ⟨?_, ends listed a w H pst σ E hs hI hpst hall⟩
    rw [List.eq_nil_iff_forall_not_mem]
    intro i hi
    have h := mem_ready'.1 hi
    have h2 := hall i h.1
    unfold LL at h2
    have h3 := h.2.1
    simp only [Array.getD_eq_getD_getElem?] at h2 h3
    rw [Array.getElem?_eq_getElem (by omega)] at h2 h3
    simp at h2 h3
    rw [h2] at h3; cases h3
  | succ fuel ih =>
    intro listed a w H pst σ E hs hc hI hpst
    refine ⟨fun hr => ends listed a w H pst σ E hs hI hpst (all_listed listed hs hr), fun i hi => ?_⟩
    obtain ⟨hi1, hi2, o, ho, hedges⟩ := mem_ready'.1 hi
    have hnl : LL listed i = false := by
      unfold LL
      simp only [Array.getD_eq_getD_getElem?] at hi2 ⊢
      rw [Array.getElem?_eq_getElem (by omega)] at hi2 ⊢
      simpa using hi2
    have hpre : ∀ k, pre i k → LL listed k = true := by
      intro k hk
      obtain ⟨o', e, h1, h2, h3, h4, h5⟩ := hd.pred i k hk
      rw [ho] at h1; injection h1 with h1; subst h1
      have he := hedges e h2 h3
      rcases h5 with rfl | h5
      · exact he
      · exact hI.down _ he _ h5
    have hset : ∀ k, LL (listed.setIfInBounds i true) k = if k = i then true else LL listed k := fun k => LL_set (by omega)
    have hset1 : ∀ k, LL listed k = true → LL (listed.setIfInBounds i true) k = true := fun k hk => by rw [hset]; split <;> first | rfl | exact hk
    have hset2 : ∀ k, LL (listed.setIfInBounds i true) k = false → LL listed k = false := fun k hk => by rw [hset] at hk; split at hk; cases hk; exact hk
    have hdown' : ∀ k, LL (listed.setIfInBounds i true) k = true → ∀ m, pre k m → LL (listed.setIfInBounds i true) m = true := by
      intro k hk m hm
      rw [hset] at hk
      split at hk
      · rename_i e; subst e; exact hset1 _ (hpre m hm)
      · exact hset1 _ (hI.down k hk m hm)
    have hcnt : cnt ops.size (listed.setIfInBounds i true) = fuel := by have := cnt_set hi1 hs hnl; omega
    have hsz : (listed.setIfInBounds i true).size = ops.size := by simpa using hs
    obtain ⟨d, hdm, hdi⟩ := hd.cover i hi1
    obtain ⟨o', ho', hchk⟩ := hd.chk d hdm
    rw [hdi, ho] at ho'; injection ho' with ho'; subst ho'
    unfold wpOp
    rw [ho]
    simp only
    -- what one instruction leaves is enough
    obtain ⟨G, hG, hGu⟩ := hI.rel.use
    have go : ∀ (K1 : List PV → List AObj → Prop), ASeq P [d.x] K1 (eFr (frOf fr0 (H.filter fun r => LL listed r.d.idx)) E) σ →
        (∀ fr' σ' a' w', RelH g0 (E.map Ear.b) fr' σ' a' w' → (∀ b ∈ E.map Ear.b, w'.heap[b]? = w.heap[b]?) → K1 fr' σ' → wpAny P .any ops Q fuel (listed.setIfInBounds i true) a' w') →
        if Region.wanted o (yielded ops a.tmps) then o.wp P a w (wpAny P .any ops Q fuel (listed.setIfInBounds i true)) Q ∨ (o.asks P a w ∧ LetsOut Q) else wpAny P .any ops Q fuel (listed.setIfInBounds i true) (a.put o.dst undef) w := by
      intro K1 hA hK
      have := in_sound (Q := Q) (N := wpAny P .any ops Q fuel (listed.setIfInBounds i true)) hchk hG hA (fun fr' σ' a' w' hr hk => hK fr' σ' a' w' (hGu _ _ _ _ hr).1 (hGu _ _ _ _ hr).2 hk)
      split
      · rename_i hw; rw [if_pos hw] at this; exact .inl this
      · rename_i hw; rw [if_neg hw] at this; exact this
    have earK : ∀ (w' : World), (∀ b ∈ E.map Ear.b, w'.heap[b]? = w.heap[b]?) → ∀ e ∈ E, e.d ∈ pst ∧ LL (listed.setIfInBounds i true) e.d.idx = true ∧ e.d.x = ⟨some e.t, .op (.alloc e.z), none⟩ ∧ ∃ ty, w'.heap[e.b]? = some (.cells e.z.cells ty (0, 0)) := by
      intro w' hw' e he
      obtain ⟨h1, h2, h3, ty, h4⟩ := hI.ear e he
      exact ⟨h1, hset1 _ h2, h3, ty, (hw' e.b (List.mem_map.2 ⟨e, he, rfl⟩)).trans h4⟩
    have memK : ∀ k, LL (listed.setIfInBounds i true) k = true → k = i ∨ (∃ r ∈ H, r.d.idx = k) ∨ ∃ e ∈ E, e.d.idx = k := by
      intro k hk
      rw [hset] at hk
      split at hk
      · exact .inl (by assumption)
      · exact .inr (hI.mem k hk)
    rw [hI.split] at hdm
    rcases List.mem_append.1 hdm with hdm | hdm
    · -- it was taken ahead
      obtain ⟨r, hr, rfl⟩ := List.mem_map.1 hdm
      obtain ⟨A, B, hH⟩ := List.append_of_mem hr
      have hrn : LL listed r.d.idx = false := by rw [hdi]; exact hnl
      have hsp : ds = A.map Rec.d ++ r.d :: (B.map Rec.d ++ pst) := by rw [hI.split, hH]; simp
      have hnoE := hI.noE hd hsp hrn (fun e he => List.mem_append_right _ (hI.ear e he).1)
      have hreads0 := hI.reads hd hH hrn (by rw [hdi]; exact hpre)
      have hreads : ∀ t, (t ∈ r.d.x.reads ∨ r.d.x.dst = some t) → (eFr (frOf fr0 (H.filter fun r => LL listed r.d.idx)) E)[t]? = (frOf fr0 A)[t]? := fun t ht => by rw [eFr_ne (hnoE t ht)]; exact hreads0 t ht
      have hah := hI.pend A r B hH hrn
      have hidA : ∀ q ∈ A, q.d.idx ≠ i := fun q hq => by rw [← hdi]; exact idx_inj hd hsp (.inl (List.mem_map.2 ⟨q, hq, rfl⟩))
      have hidB : ∀ q ∈ B, q.d.idx ≠ i := fun q hq => by rw [← hdi]; exact idx_inj hd hsp (.inr (List.mem_append_left _ (List.mem_map.2 ⟨q, hq, rfl⟩)))
      have hg := guard_congr (x := r.d.x) (fun t ht => hreads t (.inl ht))
      have hA : ASeq P [r.d.x] (fun fr' σ' => fr' = setD (eFr (frOf fr0 (H.filter fun r => LL listed r.d.idx)) E) r.d.x.dst r.v ∧ σ' = σ) (eFr (frOf fr0 (H.filter fun r => LL listed r.d.idx)) E) σ := by
        simp only [ASeq]
        rw [hg]
        rcases hah with ⟨h1, i0, h2, h3⟩ | ⟨h1, f, args, h2, h3⟩ | ⟨h1, h2⟩
        · rw [h1, h2]
          simp only
          have := ai_congr (σ := σ) (i := i0) (fr := eFr (frOf fr0 (H.filter fun r => LL listed r.d.idx)) E) (fr' := frOf fr0 A) (fun t ht => hreads t (.inl (by simp [AIn.reads, AStep.slots, h2, ht])))
          rw [this, h3]
          simp
        · rw [h1, h2]
          simp only
          have hc1 : aev (eFr (frOf fr0 (H.filter fun r => LL listed r.d.idx)) E) f = aev (frOf fr0 A) f := aev_congr fun t ht => hreads t (.inl (by simp [AIn.reads, AStep.slots, h2, ht]))
          have hc2 : args.map (aev (eFr (frOf fr0 (H.filter fun r => LL listed r.d.idx)) E)) = args.map (aev (frOf fr0 A)) := map_congr_slots fun t ht => hreads t (.inl (by simp only [AIn.reads, AStep.slots, h2]; simp only [List.mem_append]; exact .inl (.inr ht)))
          rw [hc1, hc2]
          have h3 := h3 σ
          unfold ACallV at h3 ⊢
          split at h3
          · exact ⟨h3.1, h3.2.1, h3.2.2.1, h3.2.2.2.mono fun p σ' hk => ⟨by rw [hk.1], hk.2⟩⟩
          · exact ⟨h3.1, h3.2.mono fun p σ' hk => ⟨by rw [hk.1], hk.2⟩⟩
          · exact h3.elim
        · rw [h1, h2]; simp
      refine go _ hA ?_
      rintro fr' σ' a' w' hrel hheap ⟨rfl, rfl⟩
      refine ih _ a' w' H pst σ' E hsz hcnt ⟨hI.split, fun q hq hqe => hset1 _ (hI.effs q hq hqe), fun k hk => ?_, hdown', earK w' hheap, hI.ndb, hI.ndt, ?_, hI.seq, fun A' r' B' hh hn => hI.pend A' r' B' hh (hset2 _ hn)⟩ ?_
      · rcases memK k hk with rfl | h
        · exact .inl ⟨r, hr, hdi⟩
        · exact h
      · -- the frame
        have e1 : H.filter (fun r => LL listed r.d.idx) = A.filter (fun r => LL listed r.d.idx) ++ B.filter (fun r => LL listed r.d.idx) := by
          rw [hH, List.filter_append, List.filter_cons, if_neg (by rw [hrn]; simp)]
        have fA : A.filter (fun q => LL (listed.setIfInBounds i true) q.d.idx) = A.filter (fun q => LL listed q.d.idx) := List.filter_congr fun q hq => by rw [hset, if_neg (hidA q hq)]
        have fB : B.filter (fun q => LL (listed.setIfInBounds i true) q.d.idx) = B.filter (fun q => LL listed q.d.idx) := List.filter_congr fun q hq => by rw [hset, if_neg (hidB q hq)]
        have e2 : H.filter (fun r => LL (listed.setIfInBounds i true) r.d.idx) = A.filter (fun r => LL listed r.d.idx) ++ r :: B.filter (fun r => LL listed r.d.idx) := by
          rw [hH, List.filter_append, List.filter_cons, if_pos (by rw [hset, if_pos hdi]), fA, fB]
        have e3 : frOf fr0 (H.filter fun r => LL (listed.setIfInBounds i true) r.d.idx) = setD (frOf fr0 (H.filter fun r => LL listed r.d.idx)) r.d.x.dst r.v := by
          rw [e1, e2, frOf_append, frOf_append]
          have e4 : ∀ X, frOf X (r :: B.filter fun r => LL listed r.d.idx) = frOf (setD X r.d.x.dst r.v) (B.filter fun r => LL listed r.d.idx) := fun X => rfl
          rw [e4]
          apply List.ext_getElem?
          intro t
          by_cases ht : r.d.x.dst = some t
          · have hsk : ∀ q ∈ B.filter (fun r => LL listed r.d.idx), q.d.x.dst ≠ some t := by
              intro q hq hqd
              rw [List.mem_filter] at hq
              obtain ⟨B1, B2, rfl⟩ := List.append_of_mem hq.1
              have hp := hd.conf (A.map Rec.d) r.d (B1.map Rec.d) q.d (B2.map Rec.d ++ pst) (by rw [hI.split, hH]; simp) (conflict_of_write ht (.inr hqd))
              exact absurd (hI.down _ hq.2 _ hp) (by rw [hrn]; simp)
            rw [frOf_skip hsk, ht]
            rcases Nat.lt_or_ge t (frOf fr0 (A.filter fun r => LL listed r.d.idx)).length with hl | hl
            · rw [setD_get_eq hl, setD_get_eq (by rw [frOf_length]; exact hl)]
            · rw [List.getElem?_eq_none (by rw [setD_length]; exact hl), List.getElem?_eq_none (by rw [setD_length, frOf_length]; exact hl)]
          · rw [setD_get_ne ht]
            exact frOf_get_congr (by rw [setD_get_ne ht]) (by rw [setD_length]) _
        rw [e3, eFr_setD fun e he h => hnoE e.t (.inr h) e he rfl]; exact hrel
      · rcases hpst with h | ⟨e, rest, h1, h2, h3⟩
        · exact .inl h
        · refine .inr ⟨e, rest, h1, h2, ?_⟩
          rw [hset, if_neg ?_]
          · exact h3
          · rw [← hdi]; exact idx_inj hd hsp (.inr (by rw [h1]; simp))
    · -- it has an effect
      rcases hpst with h | ⟨e, rest, hp, he, hen⟩
      · rw [h] at hdm; simp at hdm
      · subst hp
        rcases List.mem_cons.1 hdm with rfl | hdr
        · have hspl : ds = H.map Rec.d ++ d :: rest := hI.split
          have inR : ∀ e ∈ E, e.d ∈ rest := by
            intro e he
            obtain ⟨h1, h2, _⟩ := hI.ear e he
            rcases List.mem_cons.1 h1 with h1 | h1
            · rw [h1, hen] at h2; cases h2
            · exact h1
          have hnoE := hI.noE hd hspl hen inR
          have hreads : ∀ t, t ∈ d.x.reads → (eFr (frOf fr0 (H.filter fun r => LL listed r.d.idx)) E)[t]? = (frOf fr0 H)[t]? := by
            intro t ht
            rw [eFr_ne (hnoE t (.inl ht))]
            refine frOf_filter fun q hq hqd => ?_
            obtain ⟨A1, A2, rfl⟩ := List.append_of_mem hq
            exact hpre _ (by rw [← hdi]; exact hd.conf (A1.map Rec.d) q.d (A2.map Rec.d) d rest (by rw [hspl]; simp) (conflict_of_write hqd (.inl ht)))
          have hg := guard_congr hreads
          have hseq := hI.seq
          have hA : ASeq P [d.x] (fun fr' σ' => ∃ p, fr' = setD (eFr (frOf fr0 (H.filter fun r => LL listed r.d.idx)) E) d.x.dst p ∧ (σ' = σ ∨ rcs (frOf fr0 H) σ' (H.map Rec.d).reverse d.rc) ∧ ADSeq P rest (d :: (H.map Rec.d).reverse) K (setD (frOf fr0 H) d.x.dst p) σ') (eFr (frOf fr0 (H.filter fun r => LL listed r.d.idx)) E) σ := by
            simp only [ASeq, ADSeq] at hseq ⊢
            rw [hg]
            split at hseq
            · rename_i hgt
              rw [hgt]
              simp only
              split at hseq
              · rename_i i0 hi0
                have hc := ai_congr (σ := σ) (i := i0) (fr := eFr (frOf fr0 (H.filter fun r => LL listed r.d.idx)) E) (fr' := frOf fr0 H) (fun t ht => hreads t (by simp [AIn.reads, AStep.slots, hi0, ht]))
                split at hseq
                · rename_i p σ' ha
                  rw [hi0]; simp only; rw [hc, ha]
                  have hie : i0.eff = true := by simpa [AIn.eff, hi0] using he
                  rw [if_pos hie] at hseq
                  exact ⟨p, rfl, .inr hseq.1, hseq.2⟩
                · exact hseq.elim
              · rename_i f args hi0
                rw [hi0]
                have hc1 : aev (eFr (frOf fr0 (H.filter fun r => LL listed r.d.idx)) E) f = aev (frOf fr0 H) f := aev_congr fun t ht => hreads t (by simp [AIn.reads, AStep.slots, hi0, ht])
                have hc2 : args.map (aev (eFr (frOf fr0 (H.filter fun r => LL listed r.d.idx)) E)) = args.map (aev (frOf fr0 H)) := map_congr_slots fun t ht => hreads t (by simp only [AIn.reads, AStep.slots, hi0]; simp only [List.mem_append]; exact .inl (.inr ht))
                simp only
                rw [hc1, hc2]
                unfold ACallV at hseq ⊢
                split at hseq
                · exact ⟨hseq.1, hseq.2.1, hseq.2.2.1, hseq.2.2.2.mono fun p σ' hk => ⟨p, rfl, .inr hk.1, hk.2⟩⟩
                · exact ⟨hseq.1, hseq.2.mono fun p σ' hk => ⟨p, rfl, .inr hk.1, hk.2⟩⟩
                · exact hseq.elim
              · rename_i f args hi0
                simp [AIn.eff, hi0] at he
            · rename_i hgt
              rw [hgt]
              exact ⟨.val undef, rfl, .inl (by trivial), hseq⟩
            · exact hseq.elim
          refine go _ hA ?_
          rintro fr' σ' a' w' hrel hheap ⟨p, rfl, hrc, hs'⟩
          have hfr1 : ∀ L : List Rec, frOf fr0 (L ++ [Rec.mk d p]) = setD (frOf fr0 L) d.x.dst p := by intro L; rw [frOf_append]; rfl
          have hidH : ∀ q ∈ H, q.d.idx ≠ i := fun q hq => by rw [← hdi]; exact idx_inj hd hspl (.inl (List.mem_map.2 ⟨q, hq, rfl⟩))
          have hfil : (H ++ [Rec.mk d p]).filter (fun r => LL (listed.setIfInBounds i true) r.d.idx) = H.filter (fun r => LL listed r.d.idx) ++ [Rec.mk d p] := by
            rw [List.filter_append]
            have f1 : H.filter (fun q => LL (listed.setIfInBounds i true) q.d.idx) = H.filter (fun q => LL listed q.d.idx) := List.filter_congr fun q hq => by rw [hset, if_neg (hidH q hq)]
            rw [f1, List.filter_cons, if_pos (by rw [hset, if_pos hdi])]; rfl
          have hI1 : Inv P ds pre K g0 fr0 (listed.setIfInBounds i true) a' w' (H ++ [Rec.mk d p]) rest σ' E := by
            refine ⟨by rw [hspl]; simp, fun q hq hqe => ?_, fun k hk => ?_, hdown', fun e he => ⟨inR e he, (earK w' hheap e he).2⟩, hI.ndb, hI.ndt, ?_, ?_, fun A r B hh hn => ?_⟩
            · rcases List.mem_append.1 hq with hq | hq
              · exact hset1 _ (hI.effs q hq hqe)
              · simp at hq; subst hq; rw [hset, if_pos hdi]
            · rcases memK k hk with rfl | ⟨r, hr, h⟩ | h
              · exact .inl ⟨Rec.mk d p, by simp, hdi⟩
              · exact .inl ⟨r, by simp [hr], h⟩
              · exact .inr h
            · rw [hfil, hfr1, eFr_setD fun e he h => hnoE e.t (.inr h) e he rfl]; exact hrel
            · rw [hfr1]
              have : ((H ++ [Rec.mk d p]).map Rec.d).reverse = d :: (H.map Rec.d).reverse := by simp
              rw [this]; exact hs'
            · rcases split_cases hh with ⟨B0, h1, h2⟩ | ⟨A2, h1, h2⟩
              · have hrn := hset2 _ hn
                have hah := hI.pend A r B0 h1 hrn
                rcases hrc with rfl | hrc
                · exact hah
                · refine ahead_keeps hd (listed := listed) (B := B0) (d := d) (rest := rest) (by rw [← h1]; exact hspl) he (fun he => hI.effs r (by rw [h1]; simp) he) hrn (by rw [hdi]; exact hpre) ?_ hah
                  rw [← h1]; exact hrc
              · cases A2 with
                | nil => simp at h2; obtain ⟨rfl, _⟩ := h2; simp only at hn; rw [hset, if_pos hdi] at hn; cases hn
                | cons x A2 => simp at h2
          obtain ⟨H', pst', σ'', E', hI2, hp2⟩ := settle hd rest.length _ _ _ _ (Nat.le_refl _) hI1
          exact ih _ a' w' H' pst' σ'' E' hsz hcnt hI2 hp2
        · obtain ⟨R1, R2, hR⟩ := List.append_of_mem hdr
          rcases hd.effs (H.map Rec.d) e R1 d R2 (by rw [hI.split, hR]; simp) he with h | hal
          · rw [hdi] at h
            rw [hpre _ h] at hen; cases hen
          · -- an allocation ahead of its place
            obtain ⟨t, z, hx⟩ := AIn.isAl_eq hal
            have hne : ∀ u ∈ E, u.t ≠ t := by
              intro u hu hut
              obtain ⟨h1, h2, h3, _⟩ := hI.ear u hu
              have hud : u.d.idx ≠ d.idx := fun h => by rw [h, hdi, hnl] at h2; cases h2
              have hual : u.d.x.isAl = true := by rw [h3]; rfl
              have hdst : u.d.x.dst = d.x.dst := by rw [h3, hx, hut]
              rw [hR] at h1
              have h1 : u.d ∈ e :: R1 ∨ u.d = d ∨ u.d ∈ R2 := by
                rcases List.mem_cons.1 h1 with h1 | h1
                · exact .inl (by rw [h1]; simp)
                · rcases List.mem_append.1 h1 with h1 | h1
                  · exact .inl (List.mem_cons_of_mem _ h1)
                  · rcases List.mem_cons.1 h1 with h1 | h1
                    · exact .inr (.inl h1)
                    · exact .inr (.inr h1)
              rcases h1 with h1 | h1 | h1
              · obtain ⟨S1, S2, hS⟩ := List.append_of_mem h1
                exact hd.als (H.map Rec.d ++ S1) u.d S2 d R2 (by rw [hI.split, hR, ← List.cons_append, hS]; simp) hual hal hdst
              · exact hud (by rw [h1])
              · obtain ⟨S1, S2, hS⟩ := List.append_of_mem h1
                exact hd.als (H.map Rec.d ++ e :: R1) d S1 u.d S2 (by rw [hI.split, hR, hS]; simp) hal hual hdst.symm
            have hfil : H.filter (fun q => LL (listed.setIfInBounds i true) q.d.idx) = H.filter (fun q => LL listed q.d.idx) := by
              refine List.filter_congr fun q hq => ?_
              have : q.d.idx ≠ i := by
                rw [← hdi]
                exact idx_inj hd (A := H.map Rec.d ++ e :: R1) (B := R2) (by rw [hI.split, hR]; simp) (.inl (List.mem_append_left _ (List.mem_map.2 ⟨q, hq, rfl⟩)))
              rw [hset, if_neg this]
            have hei : e.idx ≠ i := by
              rw [← hdi]
              exact idx_inj hd (A := H.map Rec.d ++ e :: R1) (B := R2) (by rw [hI.split, hR]; simp) (.inl (by simp))
            have hlt : ∀ b ∈ E.map Ear.b, b < w.heap.size := by
              intro b hb
              obtain ⟨u, hu, rfl⟩ := List.mem_map.1 hb
              obtain ⟨_, _, _, ty, h4⟩ := hI.ear u hu
              exact (Array.getElem?_eq_some_iff.1 h4).1
            have := RelH.early (Q := Q) (N := wpAny P .any ops Q fuel (listed.setIfInBounds i true)) hx hchk hI.rel (fun a' w' ty hrel hold hnew => by
              refine ih _ a' w' H (e :: rest) σ (E ++ [⟨d, t, z, w.heap.size⟩]) hsz hcnt ⟨hI.split, fun q hq hqe => hset1 _ (hI.effs q hq hqe), fun k hk => ?_, hdown', fun u hu => ?_, ?_, ?_, ?_, hI.seq, fun A' r' B' hh hn => hI.pend A' r' B' hh (hset2 _ hn)⟩ (.inr ⟨e, rest, rfl, he, by rw [hset, if_neg hei]; exact hen⟩)
              · rcases memK k hk with rfl | h | ⟨u, hu, h⟩
                · exact .inr ⟨⟨d, t, z, w.heap.size⟩, by simp, hdi⟩
                · exact .inl h
                · exact .inr ⟨u, by simp [hu], h⟩
              · rcases List.mem_append.1 hu with hu | hu
                · obtain ⟨h1, h2, h3, ty', h4⟩ := hI.ear u hu
                  exact ⟨h1, hset1 _ h2, h3, ty', (hold u.b (hlt u.b (List.mem_map.2 ⟨u, hu, rfl⟩))).trans h4⟩
                · simp at hu; subst hu
                  exact ⟨hdm, by simp only; rw [hset, if_pos hdi], hx, ty, hnew⟩
              · rw [List.map_append, List.map_cons, List.map_nil, List.nodup_append]
                refine ⟨hI.ndb, by simp, fun b hb c hc => ?_⟩
                have := hlt b hb
                simp at hc; omega
              · rw [List.map_append, List.map_cons, List.map_nil, List.nodup_append]
                refine ⟨hI.ndt, by simp, fun b hb c hc => ?_⟩
                obtain ⟨u, hu, rfl⟩ := List.mem_map.1 hb
                simp at hc
                rw [hc]; exact hne u hu
              · rw [hfil, eFr_snoc, List.map_append]; exact hrel)
            split
            · rename_i hw; rw [if_pos hw] at this; exact .inl this
            · rename_i hw; rw [if_neg hw] at this; exact this

end

end Aw
end Go.Proofs.Ytoliadfdklfmfaa
