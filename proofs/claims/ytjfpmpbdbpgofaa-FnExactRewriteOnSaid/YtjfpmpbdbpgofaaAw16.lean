/- Regions whose order is open: the rule holds. -/
import Derived.Test.YtjfpmpbdbpgofaaAw15
set_option linter.unusedVariables false
set_option linter.unusedSimpArgs false
namespace Go.Proofs.Ytjfpmpbdbpgofaa
namespace Aw

theorem split_cases {α : Type} {X Y A B : List α} {r : α} (h : X ++ Y = A ++ r :: B) : (∃ B0, X = A ++ r :: B0 ∧ B = B0 ++ Y) ∨ (∃ A2, A = X ++ A2 ∧ Y = A2 ++ r :: B) := by
  rcases List.append_eq_append_iff.1 h with ⟨C, h1, h2⟩ | ⟨C, h1, h2⟩
  · exact .inr ⟨C, h1, h2⟩
  · cases C with
    | nil => simp at h2; exact .inr ⟨[], by simpa using h1.symm, by simpa using h2.symm⟩
    | cons c C => simp at h2; obtain ⟨rfl, h2⟩ := h2; exact .inl ⟨C, h1, h2⟩

section
variable {P : Program} {ops : Array Oper} {ds : List DIn} {pre : Nat → Nat → Prop} {K : List PV → List AObj → Prop} {g0 : G} {fr0 : List PV}

def cnt (n : Nat) (listed : Array Bool) : Nat := (List.range n).countP fun i => !LL listed i
theorem cnt_set {n i : Nat} {listed : Array Bool} (hi : i < n) (hs : listed.size = n) (hn : LL listed i = false) : cnt n (listed.setIfInBounds i true) + 1 = cnt n listed := by
  unfold cnt
  have h1 : (List.range n).countP (fun k => !LL (listed.setIfInBounds i true) k) = (List.range n).countP (fun k => !LL listed k && !(k == i)) := by
    congr 1; funext k
    rw [LL_set (by omega)]
    by_cases hk : k = i
    · subst hk; simp
    · simp [hk]
  rw [h1]
  have key : ∀ l : List Nat, l.Nodup → i ∈ l → l.countP (fun k => !LL listed k && !(k == i)) + 1 = l.countP fun k => !LL listed k := by
    intro l
    induction l with
    | nil => intro _ h; simp at h
    | cons x l ih =>
      intro hnd hm
      have hnd' := List.nodup_cons.1 hnd
      rw [List.countP_cons, List.countP_cons]
      by_cases hx : x = i
      · subst hx
        have : l.countP (fun k => !LL listed k && !(k == x)) = l.countP fun k => !LL listed k := by
          apply List.countP_congr
          intro k hk
          have : k ≠ x := fun e => hnd'.1 (e ▸ hk)
          simp [this]
        rw [this]; simp [hn]
      · have := ih hnd'.2 (by rcases List.mem_cons.1 hm with h | h; exact absurd h.symm hx; exact h)
        have hxx : (x == i) = false := by simpa using hx
        rw [hxx]
        simp only [Bool.not_false, Bool.and_true]
        omega
  exact key _ List.nodup_range (by simpa using hi)

/-- Every order that an open region's edges allow comes to the same. -/
theorem drawn_sound (hd : DOk P ops ds pre) {Q : Exit → Act → World → Prop} (hQ : ∀ fr σ a w, Rel g0 fr σ a w → K fr σ → Q .normal a w) :
    ∀ (fuel : Nat) (listed : Array Bool) (a : Act) (w : World) (H : List Rec) (pst : List DIn) (σ : List AObj), listed.size = ops.size → cnt ops.size listed = fuel → Inv P ds pre K g0 fr0 listed a w H pst σ → wpAny P .any ops Q fuel listed a w := by
  have all_listed : ∀ (listed : Array Bool), listed.size = ops.size → Region.ready .any ops listed = [] → ∀ i, i < ops.size → LL listed i = true := by
    intro listed hs hr i
    induction i using Nat.strongRecOn with
    | _ i ih =>
      intro hi
      cases hl : LL listed i with
      | true => rfl
      | false =>
        exfalso
        have : i ∈ Region.ready .any ops listed := mem_ready'.2 ⟨hi, by
          unfold LL at hl
          simp only [Array.getD_eq_getD_getElem?] at hl ⊢
          rw [Array.getElem?_eq_getElem (by omega)] at hl ⊢
          simpa using hl, ops[i], by simp [hi], fun e he hb => by
          have hlt := hd.edges i ops[i] (by simp [hi]) e he hb
          exact ih e.on hlt (by omega)⟩
        rw [hr] at this; simp at this
  have ends : ∀ (listed : Array Bool) (a : Act) (w : World) (H : List Rec) (pst : List DIn) (σ : List AObj), listed.size = ops.size → Inv P ds pre K g0 fr0 listed a w H pst σ → (∀ i, i < ops.size → LL listed i = true) → Q .normal a w := by
    intro listed a w H pst σ hs hI hall
    have hp : pst = [] := by
      rcases hI.post with h | ⟨e, rest, h, _, hn⟩
      · exact h
      · have := hall e.idx (hd.lt e (by rw [hI.split, h]; simp))
        rw [hn] at this; cases this
    subst hp
    have hf : H.filter (fun r => LL listed r.d.idx) = H := by
      rw [List.filter_eq_self]
      intro r hr
      exact hall _ (hd.lt r.d (by rw [hI.split]; simp; exact ⟨r, hr, rfl⟩))
    have hrel := hI.rel
    rw [hf] at hrel
    exact hQ _ _ _ _ hrel hI.seq
  intro fuel
  induction fuel with
  | zero =>
    intro listed a w H pst σ hs hc hI
    have hall : ∀ i, i < ops.size → LL listed i = true := by
      intro i hi
      unfold cnt at hc
      rw [List.countP_eq_zero] at hc
      have := hc i (by simpa using hi)
      simpa using this
    refine ⟨?_, ends listed a w H pst σ hs hI hall⟩
    rw [List.eq_nil_iff_forall_not_mem]
    intro i hi
    have h := mem_ready'.1 hi
    have h2 := hall i h.1
    unfold LL at h2
    have h3 := h.2.1
    simp only [Array.getD_eq_getD_getElem?] at h2 h3
    rw [Array.getElem?_eq_getElem (by omega)] at h2 h3
    simp at h2 h3
    rw [h2] at h3; cases h3
  | succ fuel ih =>
    intro listed a w H pst σ hs hc hI
    refine ⟨fun hr => ends listed a w H pst σ hs hI (all_listed listed hs hr), fun i hi => ?_⟩
    obtain ⟨hi1, hi2, o, ho, hedges⟩ := mem_ready'.1 hi
    have hnl : LL listed i = false := by
      unfold LL
      simp only [Array.getD_eq_getD_getElem?] at hi2 ⊢
      rw [Array.getElem?_eq_getElem (by omega)] at hi2 ⊢
      simpa using hi2
    have hpre : ∀ k, pre i k → LL listed k = true := by
      intro k hk
      obtain ⟨o', e, h1, h2, h3, h4, h5⟩ := hd.pred i k hk
      rw [ho] at h1; injection h1 with h1; subst h1
      have he := hedges e h2 h3
      rcases h5 with rfl | h5
      · exact he
      · exact hI.down _ he _ h5
    have hset : ∀ k, LL (listed.setIfInBounds i true) k = if k = i then true else LL listed k := fun k => LL_set (by omega)
    have hset1 : ∀ k, LL listed k = true → LL (listed.setIfInBounds i true) k = true := fun k hk => by rw [hset]; split <;> first | rfl | exact hk
    have hset2 : ∀ k, LL (listed.setIfInBounds i true) k = false → LL listed k = false := fun k hk => by rw [hset] at hk; split at hk; cases hk; exact hk
    have hdown' : ∀ k, LL (listed.setIfInBounds i true) k = true → ∀ m, pre k m → LL (listed.setIfInBounds i true) m = true := by
      intro k hk m hm
      rw [hset] at hk
      split at hk
      · rename_i e; subst e; exact hset1 _ (hpre m hm)
      · exact hset1 _ (hI.down k hk m hm)
    have hcnt : cnt ops.size (listed.setIfInBounds i true) = fuel := by have := cnt_set hi1 hs hnl; omega
    have hsz : (listed.setIfInBounds i true).size = ops.size := by simpa using hs
    obtain ⟨d, hdm, hdi⟩ := hd.cover i hi1
    obtain ⟨o', ho', hchk⟩ := hd.chk d hdm
    rw [hdi, ho] at ho'; injection ho' with ho'; subst ho'
    unfold wpOp
    rw [ho]
    simp only
    -- what one instruction leaves is enough
    have go : ∀ (K1 : List PV → List AObj → Prop), ASeq P [d.x] K1 (frOf fr0 (H.filter fun r => LL listed r.d.idx)) σ →
        (∀ fr' σ' a' w', Rel g0 fr' σ' a' w' → K1 fr' σ' → wpAny P .any ops Q fuel (listed.setIfInBounds i true) a' w') →
        if Region.wanted o (yielded ops a.tmps) then o.wp P a w (wpAny P .any ops Q fuel (listed.setIfInBounds i true)) Q ∨ (o.asks P a w ∧ LetsOut Q) else wpAny P .any ops Q fuel (listed.setIfInBounds i true) (a.put o.dst undef) w := by
      intro K1 hA hK
      have := in_sound (Q := Q) (N := wpAny P .any ops Q fuel (listed.setIfInBounds i true)) hchk hI.rel hA hK
      split
      · rename_i hw; rw [if_pos hw] at this; exact .inl this
      · rename_i hw; rw [if_neg hw] at this; exact this
    rw [hI.split] at hdm
    rcases List.mem_append.1 hdm with hdm | hdm
    · -- it was taken ahead
      obtain ⟨r, hr, rfl⟩ := List.mem_map.1 hdm
      obtain ⟨A, B, hH⟩ := List.append_of_mem hr
      have hrn : LL listed r.d.idx = false := by rw [hdi]; exact hnl
      have hreads := hI.reads hd hH hrn (by rw [hdi]; exact hpre)
      have hah := hI.pend A r B hH hrn
      have hsp : ds = A.map Rec.d ++ r.d :: (B.map Rec.d ++ pst) := by rw [hI.split, hH]; simp
      have hidA : ∀ q ∈ A, q.d.idx ≠ i := fun q hq => by rw [← hdi]; exact idx_inj hd hsp (.inl (List.mem_map.2 ⟨q, hq, rfl⟩))
      have hidB : ∀ q ∈ B, q.d.idx ≠ i := fun q hq => by rw [← hdi]; exact idx_inj hd hsp (.inr (List.mem_append_left _ (List.mem_map.2 ⟨q, hq, rfl⟩)))
      have hg := guard_congr (x := r.d.x) (fun t ht => hreads t (.inl ht))
      have hA : ASeq P [r.d.x] (fun fr' σ' => fr' = setD (frOf fr0 (H.filter fun r => LL listed r.d.idx)) r.d.x.dst r.v ∧ σ' = σ) (frOf fr0 (H.filter fun r => LL listed r.d.idx)) σ := by
        simp only [ASeq]
        rw [hg]
        rcases hah with ⟨h1, i0, h2, h3⟩ | ⟨h1, f, args, h2, h3⟩ | ⟨h1, h2⟩
        · rw [h1, h2]
          simp only
          have := ai_congr (σ := σ) (i := i0) (fr := frOf fr0 (H.filter fun r => LL listed r.d.idx)) (fr' := frOf fr0 A) (fun t ht => hreads t (.inl (by simp [AIn.reads, AStep.slots, h2, ht])))
          rw [this, h3]
          simp
        · rw [h1, h2]
          simp only
          have hc1 : aev (frOf fr0 (H.filter fun r => LL listed r.d.idx)) f = aev (frOf fr0 A) f := aev_congr fun t ht => hreads t (.inl (by simp [AIn.reads, AStep.slots, h2, ht]))
          have hc2 : args.map (aev (frOf fr0 (H.filter fun r => LL listed r.d.idx))) = args.map (aev (frOf fr0 A)) := map_congr_slots fun t ht => hreads t (.inl (by simp only [AIn.reads, AStep.slots, h2]; simp only [List.mem_append]; exact .inl (.inr ht)))
          rw [hc1, hc2]
          have h3 := h3 σ
          unfold ACallV at h3 ⊢
          split at h3
          · exact ⟨h3.1, h3.2.1, h3.2.2.1, h3.2.2.2.mono fun p σ' hk => ⟨by rw [hk.1], hk.2⟩⟩
          · exact ⟨h3.1, h3.2.mono fun p σ' hk => ⟨by rw [hk.1], hk.2⟩⟩
          · exact h3.elim
        · rw [h1, h2]; simp
      refine go _ hA ?_
      rintro fr' σ' a' w' hrel ⟨rfl, rfl⟩
      refine ih _ a' w' H pst σ' hsz hcnt ⟨hI.split, ?_, fun q hq hqe => hset1 _ (hI.effs q hq hqe), fun k hk => ?_, hdown', ?_, hI.seq, fun A' r' B' hh hn => hI.pend A' r' B' hh (hset2 _ hn)⟩
      · rcases hI.post with h | ⟨e, rest, h1, h2, h3⟩
        · exact .inl h
        · refine .inr ⟨e, rest, h1, h2, ?_⟩
          rw [hset, if_neg ?_]
          · exact h3
          · rw [← hdi]; exact idx_inj hd hsp (.inr (by rw [h1]; simp))
      · rw [hset] at hk
        split at hk
        · rename_i e; exact ⟨r, hr, by rw [hdi, e]⟩
        · exact hI.mem k hk
      · -- the frame
        have e1 : H.filter (fun r => LL listed r.d.idx) = A.filter (fun r => LL listed r.d.idx) ++ B.filter (fun r => LL listed r.d.idx) := by
          rw [hH, List.filter_append, List.filter_cons, if_neg (by rw [hrn]; simp)]
        have fA : A.filter (fun q => LL (listed.setIfInBounds i true) q.d.idx) = A.filter (fun q => LL listed q.d.idx) := List.filter_congr fun q hq => by rw [hset, if_neg (hidA q hq)]
        have fB : B.filter (fun q => LL (listed.setIfInBounds i true) q.d.idx) = B.filter (fun q => LL listed q.d.idx) := List.filter_congr fun q hq => by rw [hset, if_neg (hidB q hq)]
        have e2 : H.filter (fun r => LL (listed.setIfInBounds i true) r.d.idx) = A.filter (fun r => LL listed r.d.idx) ++ r :: B.filter (fun r => LL listed r.d.idx) := by
          rw [hH, List.filter_append, List.filter_cons, if_pos (by rw [hset, if_pos hdi]), fA, fB]
        have e3 : frOf fr0 (H.filter fun r => LL (listed.setIfInBounds i true) r.d.idx) = setD (frOf fr0 (H.filter fun r => LL listed r.d.idx)) r.d.x.dst r.v := by
          rw [e1, e2, frOf_append, frOf_append]
          have e4 : ∀ X, frOf X (r :: B.filter fun r => LL listed r.d.idx) = frOf (setD X r.d.x.dst r.v) (B.filter fun r => LL listed r.d.idx) := fun X => rfl
          rw [e4]
          apply List.ext_getElem?
          intro t
          by_cases ht : r.d.x.dst = some t
          · have hsk : ∀ q ∈ B.filter (fun r => LL listed r.d.idx), q.d.x.dst ≠ some t := by
              intro q hq hqd
              rw [List.mem_filter] at hq
              obtain ⟨B1, B2, rfl⟩ := List.append_of_mem hq.1
              have hp := hd.conf (A.map Rec.d) r.d (B1.map Rec.d) q.d (B2.map Rec.d ++ pst) (by rw [hI.split, hH]; simp) (conflict_of_write ht (.inr hqd))
              exact absurd (hI.down _ hq.2 _ hp) (by rw [hrn]; simp)
            rw [frOf_skip hsk, ht]
            rcases Nat.lt_or_ge t (frOf fr0 (A.filter fun r => LL listed r.d.idx)).length with hl | hl
            · rw [setD_get_eq hl, setD_get_eq (by rw [frOf_length]; exact hl)]
            · rw [List.getElem?_eq_none (by rw [setD_length]; exact hl), List.getElem?_eq_none (by rw [setD_length, frOf_length]; exact hl)]
          · rw [setD_get_ne ht]
            exact frOf_get_congr (by rw [setD_get_ne ht]) (by rw [setD_length]) _
        rw [e3]; exact hrel
    · -- it has an effect
      rcases hI.post with h | ⟨e, rest, hp, he, hen⟩
      · rw [h] at hdm; simp at hdm
      · subst hp
        rcases List.mem_cons.1 hdm with rfl | hdr
        · have hspl : ds = H.map Rec.d ++ d :: rest := hI.split
          have hreads : ∀ t, t ∈ d.x.reads → (frOf fr0 (H.filter fun r => LL listed r.d.idx))[t]? = (frOf fr0 H)[t]? := by
            intro t ht
            refine frOf_filter fun q hq hqd => ?_
            obtain ⟨A1, A2, rfl⟩ := List.append_of_mem hq
            exact hpre _ (by rw [← hdi]; exact hd.conf (A1.map Rec.d) q.d (A2.map Rec.d) d rest (by rw [hspl]; simp) (conflict_of_write hqd (.inl ht)))
          have hg := guard_congr hreads
          have hseq := hI.seq
          have hA : ASeq P [d.x] (fun fr' σ' => ∃ p, fr' = setD (frOf fr0 (H.filter fun r => LL listed r.d.idx)) d.x.dst p ∧ (σ' = σ ∨ rcs (frOf fr0 H) σ' (H.map Rec.d).reverse d.rc) ∧ ADSeq P rest (d :: (H.map Rec.d).reverse) K (setD (frOf fr0 H) d.x.dst p) σ') (frOf fr0 (H.filter fun r => LL listed r.d.idx)) σ := by
            simp only [ASeq, ADSeq] at hseq ⊢
            rw [hg]
            split at hseq
            · rename_i hgt
              rw [hgt]
              simp only
              split at hseq
              · rename_i i0 hi0
                have hc := ai_congr (σ := σ) (i := i0) (fr := frOf fr0 (H.filter fun r => LL listed r.d.idx)) (fr' := frOf fr0 H) (fun t ht => hreads t (by simp [AIn.reads, AStep.slots, hi0, ht]))
                split at hseq
                · rename_i p σ' ha
                  rw [hi0]; simp only; rw [hc, ha]
                  have hie : i0.eff = true := by simpa [AIn.eff, hi0] using he
                  rw [if_pos hie] at hseq
                  exact ⟨p, rfl, .inr hseq.1, hseq.2⟩
                · exact hseq.elim
              · rename_i f args hi0
                rw [hi0]
                have hc1 : aev (frOf fr0 (H.filter fun r => LL listed r.d.idx)) f = aev (frOf fr0 H) f := aev_congr fun t ht => hreads t (by simp [AIn.reads, AStep.slots, hi0, ht])
                have hc2 : args.map (aev (frOf fr0 (H.filter fun r => LL listed r.d.idx))) = args.map (aev (frOf fr0 H)) := map_congr_slots fun t ht => hreads t (by simp only [AIn.reads, AStep.slots, hi0]; simp only [List.mem_append]; exact .inl (.inr ht))
                simp only
                rw [hc1, hc2]
                unfold ACallV at hseq ⊢
                split at hseq
                · exact ⟨hseq.1, hseq.2.1, hseq.2.2.1, hseq.2.2.2.mono fun p σ' hk => ⟨p, rfl, .inr hk.1, hk.2⟩⟩
                · exact ⟨hseq.1, hseq.2.mono fun p σ' hk => ⟨p, rfl, .inr hk.1, hk.2⟩⟩
                · exact hseq.elim
              · rename_i f args hi0
                simp [AIn.eff, hi0] at he
            · rename_i hgt
              rw [hgt]
              exact ⟨.val undef, rfl, .inl (by trivial), hseq⟩
            · exact hseq.elim
          refine go _ hA ?_
          rintro fr' σ' a' w' hrel ⟨p, rfl, hrc, hs'⟩
          have hfr1 : frOf fr0 (H ++ [Rec.mk d p]) = setD (frOf fr0 H) d.x.dst p := by rw [frOf_append]; rfl
          obtain ⟨H2, post2, k1, k2, k3, k4, k5⟩ := advance rest _ _ _ hs'
          have hidH : ∀ q ∈ H, q.d.idx ≠ i := fun q hq => by rw [← hdi]; exact idx_inj hd hspl (.inl (List.mem_map.2 ⟨q, hq, rfl⟩))
          have hidR : ∀ q ∈ rest, q.idx ≠ i := fun q hq => by rw [← hdi]; exact idx_inj hd hspl (.inr hq)
          have hnotR : ∀ q ∈ rest, LL listed q.idx = false := by
            intro q hq
            cases hl : LL listed q.idx with
            | false => rfl
            | true =>
              obtain ⟨r, hr, hri⟩ := hI.mem _ hl
              obtain ⟨R1, R2, rfl⟩ := List.append_of_mem hq
              exact absurd hri (idx_inj hd (A := H.map Rec.d ++ d :: R1) (B := R2) (by rw [hspl]; simp) (.inl (List.mem_append_left _ (List.mem_map.2 ⟨r, hr, rfl⟩))))
          have hfil : (H ++ [Rec.mk d p] ++ H2).filter (fun r => LL (listed.setIfInBounds i true) r.d.idx) = H.filter (fun r => LL listed r.d.idx) ++ [Rec.mk d p] := by
            rw [List.filter_append, List.filter_append]
            have f1 : H.filter (fun q => LL (listed.setIfInBounds i true) q.d.idx) = H.filter (fun q => LL listed q.d.idx) := List.filter_congr fun q hq => by rw [hset, if_neg (hidH q hq)]
            have f2 : H2.filter (fun q => LL (listed.setIfInBounds i true) q.d.idx) = [] := by
              rw [List.filter_eq_nil_iff]
              intro q hq
              have hqr : q.d ∈ rest := by rw [k1]; exact List.mem_append_left _ (List.mem_map.2 ⟨q, hq, rfl⟩)
              rw [hset, if_neg (hidR _ hqr), hnotR _ hqr]; simp
            rw [f1, f2, List.append_nil, List.filter_cons, if_pos (by rw [hset, if_pos hdi])]; rfl
          refine ih _ a' w' (H ++ [Rec.mk d p] ++ H2) post2 σ' hsz hcnt ⟨by rw [hspl, k1]; simp, ?_, fun q hq hqe => ?_, fun k hk => ?_, hdown', ?_, ?_, fun A r B hh hn => ?_⟩
          · rcases k3 with h | ⟨e', rest', h1, h2⟩
            · exact .inl h
            · have hr : e' ∈ rest := by rw [k1, h1]; simp
              exact .inr ⟨e', rest', h1, h2, by rw [hset, if_neg (hidR _ hr)]; exact hnotR _ hr⟩
          · rcases List.mem_append.1 hq with hq | hq
            · rcases List.mem_append.1 hq with hq | hq
              · exact hset1 _ (hI.effs q hq hqe)
              · simp at hq; subst hq; rw [hset, if_pos hdi]
            · rw [k2 q hq] at hqe; cases hqe
          · rw [hset] at hk
            split at hk
            · rename_i e; exact ⟨(⟨d, p⟩ : Rec), by simp, by rw [hdi, e]⟩
            · obtain ⟨r, hr, hri⟩ := hI.mem k hk
              exact ⟨r, by simp [hr], hri⟩
          · rw [hfil, frOf_append]; exact hrel
          · rw [frOf_append, hfr1]
            simpa using k4
          · rcases split_cases hh with ⟨B0, h1, h2⟩ | ⟨A2, h1, h2⟩
            · rcases split_cases h1 with ⟨B1, h3, h4⟩ | ⟨A3, h3, h4⟩
              · -- an older one
                have hrn := hset2 _ hn
                have hah := hI.pend A r B1 h3 hrn
                rcases hrc with rfl | hrc
                · exact hah
                · rcases hah with ⟨g1, i0, g2, g3⟩ | hah
                  · refine .inl ⟨g1, i0, g2, ?_⟩
                    have hie : i0.eff = false := by
                      cases hh : i0.eff with
                      | false => rfl
                      | true =>
                        have := hI.effs r (by rw [h3]; simp) (by simp [AIn.eff, g2, hh])
                        rw [hrn] at this; cases this
                    cases hse : i0.sens with
                    | false => exact ai_nosens hie hse g3
                    | true =>
                      rcases hd.sens (A.map Rec.d) r.d (B1.map Rec.d) d rest (by rw [hspl, h3]; simp) he (by simp [AIn.eff, g2, hie]) (by simp [AIn.sens, g2, hse]) with hp | ⟨q1, q2, q3⟩
                      · exact absurd (hpre _ (by rw [← hdi]; exact hp)) (by rw [hrn]; simp)
                      · have hq := rcs_mem hrc (List.mem_reverse.2 (List.mem_map.2 ⟨r, by rw [h3]; simp, rfl⟩)) q1
                        have hrd : ∀ t ∈ r.d.x.reads, (frOf fr0 H)[t]? = (frOf fr0 A)[t]? := by
                          intro t ht
                          rw [h3, frOf_append, frOf_skip]
                          intro q hq hqd
                          rcases List.mem_cons.1 hq with rfl | hq
                          · exact q2 _ (List.mem_cons_self ..) t hqd ht
                          · exact q2 q.d (List.mem_cons_of_mem _ (List.mem_map.2 ⟨q, hq, rfl⟩)) t hqd ht
                        unfold rc1 at hq
                        rw [guard_congr hrd, g1, g2] at hq
                        simp only at hq
                        split at hq
                        · rename_i i1 t heq1 heq2
                          injection heq1 with heq1; subst heq1
                          split at hq
                          · rename_i p' hp'
                            have hc := ai_congr (σ := σ') (i := i0) (fr := frOf fr0 H) (fr' := frOf fr0 A) (fun t ht => hrd t (by simp [AIn.reads, AStep.slots, g2, ht]))
                            rw [hc] at hq
                            have hpv : p' = r.v := by
                              have hl : t < (frOf fr0 A).length := by
                                have := (List.getElem?_eq_some_iff.1 hp').1
                                rw [frOf_length] at this ⊢; exact this
                              rw [h3, frOf_append] at hp'
                              have e4 : frOf (frOf fr0 A) (r :: B1) = frOf (setD (frOf fr0 A) r.d.x.dst r.v) B1 := rfl
                              rw [e4, frOf_skip (fun q hq hqd => q3 q.d (List.mem_map.2 ⟨q, hq, rfl⟩) (by rw [hqd, heq2])), heq2, setD_get_eq hl] at hp'
                              injection hp' with hp'; exact hp'.symm
                            rw [hpv] at hq; exact hq
                          · exact hq.elim
                        · exact hq.elim
                  · rcases hah with ⟨g1, f, args, g2, g3⟩ | hah
                    · exact .inr (.inl ⟨g1, f, args, g2, g3⟩)
                    · exact .inr (.inr hah)
              · cases A3 with
                | nil => simp at h4; obtain ⟨rfl, _⟩ := h4; simp only at hn; rw [hset, if_pos hdi] at hn; cases hn
                | cons x A3 => simp at h4
            · have := k5 A2 r B h2
              rw [h1, frOf_append, hfr1]; exact this
        · obtain ⟨R1, R2, rfl⟩ := List.append_of_mem hdr
          have := hd.effs (H.map Rec.d) e R1 d R2 (by rw [hI.split]; simp) he
          rw [hdi] at this
          rw [hpre _ this] at hen; cases hen

end

end Aw
end Go.Proofs.Ytjfpmpbdbpgofaa
