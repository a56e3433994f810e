/- Lists of structs that hold lists: made and marked. -/
import Derived.Test.YtoliadfdklfmfaaAw34
set_option linter.unusedVariables false
set_option linter.unusedSimpArgs false
namespace Go.Proofs.Ytoliadfdklfmfaa
namespace Aw

/-- A list, element by element; of the elements something is known (C). -/
theorem toC_listC {α : Type} [Enc α] [Own α] {fns : Fns} {f fi : FuncId} {sz : α → Nat} {szl : List α → Nat} {z : PV} (hz : ∀ n, z.bel n = true) (hzn : z.nl = true) (hi : ToC fns fi sz) (hs : ∀ (x : α) xs, x ∈ xs → szl xs ≤ 1048576 → sz x ≤ 1048576) (hlen : ∀ xs, xs.length ≤ szl xs) (C : PV → Prop) (F : List α → Nat → List AObj → Option (PV × List AObj))
    (hgo : ∀ xs r, szl xs ≤ 1048576 → F xs 0 [.row (Enc.sz α) (List.replicate xs.length z) 0] = some r → ev fns f [Enc.pv xs] [] = some r)
    (hr : ∀ (xs : List α) (i : Nat) (σ : List AObj) (es : List PV) (q : PV) (τ : List AObj) (h : i < xs.length), szl xs ≤ 1048576 → σ[0]? = some (.row (Enc.sz α) es 0) → es.length = xs.length → (∃ e, es[i]? = some e ∧ (e = z)) → ev fns fi [Enc.pv xs[i]] [] = some (q, τ) → C q →
      F xs i σ = F xs (i + 1) ((σ ++ τ.map (AObj.sh σ.length)).set 0 (.row (Enc.sz α) (es.set i (q.sh σ.length)) 0)))
    (he : ∀ (xs : List α) (σ : List AObj) (es : List PV), szl xs ≤ 1048576 → σ[0]? = some (.row (Enc.sz α) es 0) → es.length = xs.length → Gud σ → F xs xs.length σ = some (.own 0 0 0 xs.length, σ))
    (hq : ∀ (σ : List AObj) (ids : List Nat) (p : PV) (x : α), Own.own σ ids p x → p.bel 0 = false → C p) :
    ToC (α := List α) fns f szl := by
  intro xs hx
  -- what holds of the state on the way
  have key : ∀ k, k ≤ xs.length → ∃ σ is ps, F xs 0 [.row (Enc.sz α) (List.replicate xs.length z) 0] = F xs k σ ∧ σ[0]? = some (.row (Enc.sz α) (ps ++ List.replicate (xs.length - k) z) 0) ∧ OwnEs σ is ps (xs.take k) ∧ is.flatten.Nodup ∧ (∀ i ∈ is.flatten, 0 < i ∧ i < σ.length) ∧ GoodN σ := by
    intro k
    induction k with
    | zero =>
      intro _
      refine ⟨_, [], [], rfl, by simp, trivial, by simp, by simp, ?_, ?_⟩
      · simp only [Gud, List.length_singleton, objsBel, Bool.and_true]
        exact bels_replicate (hz 1) _
      · simp only [List.all_cons, List.all_nil, Bool.and_true, AObj.nl]
        rw [PV.nls_iff]; intro p hp; rw [List.eq_of_mem_replicate hp]; exact hzn
    | succ k ih =>
      intro hk
      obtain ⟨σ, is, ps, h1, h2, h3, h4, h5, h6⟩ := ih (by omega)
      have hkl : k < xs.length := by omega
      have hl3 := h3.len
      have hpl : ps.length = k := by rw [hl3.1]; simp; omega
      obtain ⟨q, τ, ids, e1, e2, e3, e4⟩ := hi xs[k] (hs _ _ (List.getElem_mem hkl) hx)
      have hqq := hq τ ids q _ e2.own e4
      have hr' := hr xs k σ _ q τ hkl hx h2 (by simp [hpl]; omega) ⟨z, by rw [List.getElem?_append_right (by omega)]; simp [hpl, List.getElem?_replicate]; omega, rfl⟩ e1 hqq
      have hσ0 : 0 < σ.length := (List.getElem?_eq_some_iff.1 h2).1
      have hset : (ps ++ List.replicate (xs.length - k) z).set k (q.sh σ.length) = (ps ++ [q.sh σ.length]) ++ List.replicate (xs.length - (k + 1)) z := by
        rw [List.set_append_right _ _ (by omega), hpl, Nat.sub_self]
        obtain ⟨m, hm⟩ : ∃ m, xs.length - k = m + 1 := ⟨xs.length - k - 1, by omega⟩
        rw [hm, show xs.length - (k + 1) = m by omega]
        simp [List.replicate_succ]
      rw [hset] at hr'
      have hfr : ∀ j : Nat, 0 < j → ((σ ++ τ.map (AObj.sh σ.length)).set 0 (.row (Enc.sz α) ((ps ++ [q.sh σ.length]) ++ List.replicate (xs.length - (k + 1)) z) 0))[j]? = (σ ++ τ.map (AObj.sh σ.length))[j]? := by
        intro j hj
        rw [List.getElem?_set_ne (by omega)]
      have own2 := e2.shift σ
      refine ⟨_, is ++ [ids.map (· + σ.length)], ps ++ [q.sh σ.length], h1.trans hr', ?_, ?_, ?_, ?_, (show GoodN _ from ?_)⟩
      · rw [List.getElem?_set_self (by simp; omega)]
      · have ht : xs.take (k + 1) = xs.take k ++ [xs[k]] := by rw [List.take_add_one, List.getElem?_eq_getElem hkl]; rfl
        rw [ht]
        refine OwnEs.snoc ?_ ?_
        · refine h3.frame fun j hj => ?_
          have := h5 j hj
          rw [hfr j this.1, List.getElem?_append_left this.2]
        · refine Own.frame own2.own fun j hj => ?_
          obtain ⟨j', hj', rfl⟩ := List.mem_map.1 hj
          exact hfr _ (by omega)
      · simp only [List.flatten_append, List.flatten_cons, List.flatten_nil, List.append_nil]
        refine List.nodup_append.2 ⟨h4, own2.nd, fun a ha b hb => ?_⟩
        obtain ⟨j', hj', rfl⟩ := List.mem_map.1 hb
        have := (h5 a ha).2; omega
      · intro i hi2
        simp only [List.flatten_append, List.flatten_cons, List.flatten_nil, List.append_nil, List.mem_append] at hi2
        simp only [List.length_set, List.length_append, List.length_map]
        rcases hi2 with hi2 | hi2
        · have := h5 i hi2; omega
        · obtain ⟨j', hj', rfl⟩ := List.mem_map.1 hi2
          have := e2.lt j' hj'; omega
      · have hg := h6.app e3
        have hb : PV.bels (σ ++ τ.map (AObj.sh σ.length)).length ((ps ++ [q.sh σ.length]) ++ List.replicate (xs.length - (k + 1)) z) = true := by
          have h60 : PV.bels σ.length (ps ++ List.replicate (xs.length - k) z) = true := objsBel_get h6.1 h2
          rw [bels_append, Bool.and_eq_true] at h60
          rw [bels_append, bels_append]
          have b1 := PV.bels_le (show σ.length ≤ (σ ++ τ.map (AObj.sh σ.length)).length by simp) h60.1
          have b2 : PV.bels (σ ++ τ.map (AObj.sh σ.length)).length [q.sh σ.length] = true := by
            simp only [PV.bels, Bool.and_true]
            have := PV.bel_sh σ.length e2.bel
            rw [show (σ ++ τ.map (AObj.sh σ.length)).length = τ.length + σ.length by simp; omega]
            exact this
          rw [b1, b2, bels_replicate (hz _)]; rfl
        unfold GoodN
        constructor
        · unfold Gud
          rw [List.length_set]
          exact objsBel_set hg.1 _ _ _ hb
        · refine all_nl_set hg.2 _ ?_
          simp only [AObj.nl]
          rw [PV.nls_iff]
          intro p hp
          have h6n := h6.2
          rw [List.all_eq_true] at h6n
          have h60 := h6n _ (List.mem_of_getElem? h2)
          simp only [AObj.nl] at h60
          rw [PV.nls_iff] at h60
          rcases List.mem_append.1 hp with hp | hp
          · rcases List.mem_append.1 hp with hp | hp
            · exact h60 p (List.mem_append_left _ hp)
            · simp at hp; subst hp; exact PV.nl_sh _ (Own.nl e2.own)
          · rw [List.eq_of_mem_replicate hp]; exact hzn
  obtain ⟨σ, is, ps, h1, h2, h3, h4, h5, h6⟩ := key xs.length (Nat.le_refl _)
  rw [Nat.sub_self, List.replicate_zero, List.append_nil] at h2
  rw [List.take_length] at h3
  have hl3 := h3.len
  refine ⟨.own 0 0 0 xs.length, σ, 0 :: is.flatten, hgo xs _ hx (h1.trans (he xs σ ps hx h2 hl3.1 h6.1)), ⟨.inr ⟨0, 0, ps, is, rfl, h2, by have := hlen xs; omega, rfl, h3⟩, ?_, ?_⟩, h6, by simp [PV.bel]⟩
  · rw [List.nodup_cons]
    exact ⟨fun h => by have := (h5 0 h).1; omega, h4⟩
  · intro i hi2
    rcases List.mem_cons.1 hi2 with rfl | hi2
    · exact (List.getElem?_eq_some_iff.1 h2).1
    · exact (h5 i hi2).2

/-- The same, with what one round does told whole: the element itself may turn. -/
theorem markC_mix {α : Type} [Enc α] [Own α] {fns : Fns} {f : FuncId} {W : α → Nat} {mk : α → Int → α} (F : Nat → Nat → Nat → Nat → Nat → Int → List AObj → Option (PV × List AObj))
    (hgo : ∀ id ver n k σ r, F σ.length id ver n 0 k σ = some r → ev fns f [.own id ver 0 n, .val (.int .i64 k)] σ = some r)
    (hr : ∀ n0 id ver n i (k : Int) (σ : List AObj) (es : List PV) (ix : List Nat) (px : PV) (x : α), σ[id]? = some (.row (Enc.sz α) es ver) → es.length = n → n ≤ 140737488355328 → i < n → es[i]? = some px → OwnIn σ ix px x → id ∉ ix → Gud σ → 0 < k → k + W x ≤ 4611686018427387904 →
      ∃ px' σ', F n0 id ver n i k σ = F n0 id ver n (i + 1) (k + W x) σ' ∧ σ'[id]? = some (.row (Enc.sz α) (es.set i px') ver) ∧ Own.own σ' ix px' (mk x k) ∧ σ'.length = σ.length ∧ (∀ j, j ≠ id → j ∉ ix → σ'[j]? = σ[j]?) ∧ Gud σ' ∧ TkB σ σ')
    (he : ∀ id ver n (k : Int) (σ : List AObj), Gud σ → F σ.length id ver n n k σ = some (.val (.int .i64 k), σ))
    (hnil : ∀ (k : Int) (σ : List AObj), Gud σ → ev fns f [.val (.slice none 0 0), .val (.int .i64 k)] σ = some (.val (.int .i64 k), σ)) :
    MarkC (α := List α) fns f (sumW W) (mkL W mk) := by
  intro σ ids p xs k h hg hk hk2
  rcases h.own with ⟨rfl, rfl, rfl⟩ | ⟨id, ver, es, is, rfl, h2, h3, rfl, h5⟩
  · exact ⟨σ, by simpa [sumW] using hnil k σ hg, ⟨.inl ⟨rfl, rfl, rfl⟩, by simp, by simp⟩, rfl, fun _ _ => rfl, hg, TkB.refl σ⟩
  have hnd := List.nodup_cons.1 h.nd
  have hl5 := h5.len
  -- on the way: the elements before are marked
  have key : ∀ (suf pre : List α) (σ1 : List AObj) (es1 : List PV) (i1 i2 : List (List Nat)) (p1 p2 : List PV) (k : Int), pre.length + suf.length = xs.length → is = i1 ++ i2 → es1 = p1 ++ p2 → σ1[id]? = some (.row (Enc.sz α) es1 ver) → OwnEs σ1 i1 p1 pre → OwnEs σ1 i2 p2 suf → σ1.length = σ.length → (∀ j, j ≠ id → j ∉ is.flatten → σ1[j]? = σ[j]?) → Gud σ1 → 0 < k → k + sumW W suf ≤ 4611686018427387904 →
      ∃ σ' es', F σ.length id ver xs.length pre.length k σ1 = some (.val (.int .i64 (k + sumW W suf)), σ') ∧ σ'[id]? = some (.row (Enc.sz α) es' ver) ∧ OwnEs σ' is es' (pre ++ mkL W mk suf k) ∧ σ'.length = σ.length ∧ (∀ j, j ≠ id → j ∉ is.flatten → σ'[j]? = σ[j]?) ∧ Gud σ' ∧ TkB σ1 σ' := by
    intro suf
    induction suf with
    | nil =>
      intro pre σ1 es1 i1 i2 p1 p2 k hl e1 e2 r1 o1 o2 l1 f1 g1 hk hk2
      have hp : pre.length = xs.length := by simpa using hl
      have o2l := o2.len
      have hi2 : i2 = [] := List.eq_nil_of_length_eq_zero (by rw [o2l.2]; rfl)
      have hp2 : p2 = [] := List.eq_nil_of_length_eq_zero (by rw [o2l.1]; rfl)
      subst hi2; subst hp2
      refine ⟨σ1, es1, ?_, r1, ?_, l1, f1, g1, TkB.refl σ1⟩
      · rw [hp, ← l1]
        have := he id ver xs.length k σ1 g1
        simpa [sumW] using this
      · rw [e1, e2]; simpa [mkL] using o1
    | cons x suf ih =>
      intro pre σ1 es1 i1 i2 p1 p2 k hl e1 e2 r1 o1 o2 l1 f1 g1 hk hk2
      obtain ⟨ix, i3, px, p3, rfl, rfl, ox, o3⟩ := OwnEs.cons o2
      simp only [sumW, Int.natCast_add] at hk2 ⊢
      have hsub : ∀ j ∈ ix, j ∈ is.flatten := fun j hj => by rw [e1]; simp [hj]
      have hndi := hnd.2
      rw [e1] at hndi
      simp only [List.flatten_append, List.flatten_cons] at hndi
      have hnd1 := List.nodup_append.1 hndi
      have hnd2 := List.nodup_append.1 hnd1.2.1
      have ownx : OwnIn σ1 ix px x := ⟨ox, hnd2.1, fun j hj => by rw [l1]; exact h.lt j (List.mem_cons_of_mem _ (hsub j hj))⟩
      have hix : id ∉ ix := fun hj => hnd.1 (hsub id hj)
      have o1l := o1.len
      have o3l := o3.len
      have hpx : es1[pre.length]? = some px := by rw [e2, List.getElem?_append_right (by omega)]; simp [o1l.1]
      have hel : es1.length = xs.length := by rw [e2]; simp at hl ⊢; omega
      obtain ⟨px', σ2, m1, m2, m3, m4, m5, m6, m7⟩ := hr σ.length id ver xs.length pre.length k σ1 es1 ix px x r1 hel h3 (by simp at hl; omega) hpx ownx hix g1 hk (by omega)
      have hset : es1.set pre.length px' = (p1 ++ [px']) ++ p3 := by
        rw [e2, List.set_append_right _ _ (by omega), o1l.1, Nat.sub_self]; simp
      rw [hset] at m2
      have nid : ∀ j, j ∈ i1.flatten → j ≠ id := fun j hj e => hnd.1 (by rw [e1, ← e]; simp [hj])
      have nid3 : ∀ j, j ∈ i3.flatten → j ≠ id := fun j hj e => hnd.1 (by rw [e1, ← e]; simp [hj])
      have := ih (pre ++ [mk x k]) σ2 ((p1 ++ [px']) ++ p3) (i1 ++ [ix]) i3 (p1 ++ [px']) p3 (k + W x) (by simp at hl ⊢; omega) (by simp [e1]) rfl m2
        (OwnEs.snoc (o1.frame fun j hj => m5 j (nid j hj) fun hj' => hnd1.2.2 j hj j (by simp [hj']) rfl) m3)
        (o3.frame fun j hj => m5 j (nid3 j hj) fun hj' => hnd2.2.2 j hj' j hj rfl)
        (m4.trans l1) (fun j hj hj2 => by rw [m5 j hj fun hj' => hj2 (hsub j hj'), f1 j hj hj2]) m6 (by omega) (by omega)
      obtain ⟨σ', es', n1, n1', n2, n3, n4, n5, n6⟩ := this
      refine ⟨σ', es', ?_, n1', ?_, n3, n4, n5, m7.trans n6⟩
      · rw [m1]
        simp only [List.length_append, List.length_singleton] at n1
        rw [n1]; congr 4; omega
      · simpa [mkL] using n2
  obtain ⟨σ', es', n1, n1', n2, n3, n4, n5, n6⟩ := key xs [] σ es [] is [] es k (by simp) (by simp) (by simp) h2 trivial h5 rfl (fun _ _ _ => rfl) hg hk hk2
  exact ⟨σ', hgo id ver xs.length k σ _ n1, ⟨.inr ⟨id, ver, es', is, by rw [mkL_len], n1', by rw [mkL_len]; exact h3, rfl, by simpa using n2⟩, h.nd, fun j hj => by rw [n3]; exact h.lt j hj⟩, n3, fun j hj => n4 j (fun e => hj (by simp [e])) fun hj' => hj (List.mem_cons_of_mem _ hj'), n5, n6⟩
end Aw
end Go.Proofs.Ytoliadfdklfmfaa
