/- Owned data, made, marked and held: what loops over slices do, told by what one round does. -/
import Derived.Test.YtoliadfdklfmfaaAw32
set_option linter.unusedVariables false
set_option linter.unusedSimpArgs false
namespace Go.Proofs.Ytoliadfdklfmfaa
namespace Aw

/-- Owned data whose objects are no one else's. -/
structure OwnIn {α : Type} [Enc α] [Own α] (σ : List AObj) (ids : List Nat) (p : PV) (x : α) : Prop where
  own : Own.own σ ids p x
  nd : ids.Nodup
  lt : ∀ i ∈ ids, i < σ.length
/-- All objects speak of objects of the state alone, and hold no other memory. -/
def Gud (σ : List AObj) : Prop := objsBel σ.length σ = true
def GoodN (σ : List AObj) : Prop := Gud σ ∧ σ.all AObj.nl = true
theorem OwnEs.mem {α : Type} [Enc α] [Own α] {σ : List AObj} : ∀ {is : List (List Nat)} {ps : List PV} {xs : List α}, OwnEs σ is ps xs → ∀ {y}, y ∈ xs → ∃ ids p, Own.own σ ids p y
  | i :: is, p :: ps, x :: xs, h, y, hy => by
    rcases List.mem_cons.1 hy with rfl | hy
    · exact ⟨i, p, h.1⟩
    · exact OwnEs.mem h.2 hy
  | [], [], [], _, y, hy => by simp at hy
  | [], [], _ :: _, h, _, _ => h.elim
  | [], _ :: _, _, h, _, _ => h.elim
  | _ :: _, [], _, h, _, _ => h.elim
  | _ :: _, _ :: _, [], h, _, _ => h.elim
theorem objsBel_iff {n : Nat} : ∀ {os : List AObj}, objsBel n os = true ↔ ∀ (i sz : Nat) (es : List PV) (ver : Nat), os[i]? = some (.row sz es ver) → PV.bels n es = true
  | [] => by simp [objsBel]
  | .row s es0 v :: os => by
    simp only [objsBel, Bool.and_eq_true]
    constructor
    · rintro ⟨h1, h2⟩ i sz es ver h
      cases i with
      | zero => simp at h; rw [← h.2.1]; exact h1
      | succ i => exact objsBel_iff.1 h2 i sz es ver (by simpa using h)
    · intro h
      exact ⟨h 0 s es0 v rfl, objsBel_iff.2 fun i sz es ver hi => h (i + 1) sz es ver (by simpa using hi)⟩
theorem objsBel_set {n : Nat} {os : List AObj} (h : objsBel n os = true) (i sz : Nat) {es : List PV} (ver : Nat) (he : PV.bels n es = true) : objsBel n (os.set i (.row sz es ver)) = true := by
  rw [objsBel_iff] at h ⊢
  intro j s' es' v' hj
  rw [List.getElem?_set] at hj
  split at hj
  · split at hj
    · injection hj with hj; injection hj with _ e _; rw [← e]; exact he
    · cases hj
  · exact h j s' es' v' hj
theorem objsBel_app {n : Nat} {a b : List AObj} (h : objsBel n a = true) (k : objsBel n b = true) : objsBel n (a ++ b) = true := by
  rw [objsBel_iff] at *
  intro i sz es ver hi
  rw [List.getElem?_append] at hi
  split at hi
  · exact h _ _ _ _ hi
  · exact k _ _ _ _ hi
mutual
theorem PV.bel_sh {n : Nat} (k : Nat) : ∀ {p : PV}, p.bel n = true → (p.sh k).bel (n + k) = true
  | .agg ps, h => by simp only [PV.bel, PV.sh] at h ⊢; exact PV.bels_sh k h
  | .tup ps, h => by simp only [PV.bel, PV.sh] at h ⊢; exact PV.bels_sh k h
  | .fn f ps, h => by simp only [PV.bel, PV.sh] at h ⊢; exact PV.bels_sh k h
  | .own _ _ _ _, h => by simp only [PV.bel, PV.sh, decide_eq_true_eq] at h ⊢; omega
  | .ptr _ _ _ _, h => by simp only [PV.bel, PV.sh, decide_eq_true_eq] at h ⊢; omega
  | .any, _ => by simp [PV.sh, PV.bel]
  | .val _, _ => by simp [PV.sh, PV.bel]
  | .list _ _ _, _ => by simp [PV.sh, PV.bel]
  | .fptr _ _, _ => by simp [PV.sh, PV.bel]
  | .tl _ xs, h => by simp only [PV.bel, PV.sh] at h ⊢; exact PV.bels_sh k h
theorem PV.bels_sh {n : Nat} (k : Nat) : ∀ {ps : List PV}, PV.bels n ps = true → PV.bels (n + k) (PV.shs k ps) = true
  | [], _ => by simp [PV.shs, PV.bels]
  | p :: ps, h => by
    simp only [PV.bels, PV.shs, Bool.and_eq_true] at h ⊢
    exact ⟨PV.bel_sh k h.1, PV.bels_sh k h.2⟩
end
theorem objsBel_sh {n k : Nat} : ∀ {os : List AObj}, objsBel n os = true → objsBel (n + k) (os.map (AObj.sh k)) = true
  | [], _ => by simp [objsBel]
  | .row s es v :: os, h => by
    simp only [objsBel, List.map_cons, AObj.sh, Bool.and_eq_true] at h ⊢
    exact ⟨PV.bels_sh k h.1, objsBel_sh h.2⟩
theorem objsBel_mono {n m : Nat} (hn : n ≤ m) : ∀ {os : List AObj}, objsBel n os = true → objsBel m os = true
  | [], _ => by simp [objsBel]
  | .row s es v :: os, h => by
    simp only [objsBel, Bool.and_eq_true] at h ⊢
    exact ⟨PV.bels_le hn h.1, objsBel_mono hn h.2⟩
theorem Gud.app {σ τ : List AObj} (h : Gud σ) (k : Gud τ) : Gud (σ ++ τ.map (AObj.sh σ.length)) := by
  unfold Gud at *
  rw [List.length_append, List.length_map]
  refine objsBel_app (objsBel_mono (by omega) h) ?_
  rw [Nat.add_comm]
  exact objsBel_sh k
mutual
theorem PV.nl_sh (k : Nat) : ∀ {p : PV}, p.nl = true → (p.sh k).nl = true
  | .agg ps, h => by simp only [PV.nl, PV.sh] at h ⊢; exact PV.nls_sh k h
  | .tup ps, h => by simp only [PV.nl, PV.sh] at h ⊢; exact PV.nls_sh k h
  | .fn f ps, h => by simp only [PV.nl, PV.sh] at h ⊢; exact PV.nls_sh k h
  | .own _ _ _ _, h => by simp [PV.sh, PV.nl]
  | .ptr _ _ _ _, h => by simp [PV.sh, PV.nl]
  | .any, _ => by simp [PV.sh, PV.nl]
  | .val _, _ => by simp [PV.sh, PV.nl]
  | .list _ _ _, h => by simpa [PV.sh] using h
  | .fptr _ _, h => by simp [PV.nl] at h
  | .tl _ xs, h => by simp [PV.nl] at h
theorem PV.nls_sh (k : Nat) : ∀ {ps : List PV}, PV.nls ps = true → PV.nls (PV.shs k ps) = true
  | [], _ => by simp [PV.shs, PV.nls]
  | p :: ps, h => by
    simp only [PV.nls, PV.shs, Bool.and_eq_true] at h ⊢
    exact ⟨PV.nl_sh k h.1, PV.nls_sh k h.2⟩
end
theorem AObj.nl_sh (k : Nat) {o : AObj} (h : o.nl = true) : (o.sh k).nl = true := by
  cases o; simp only [AObj.nl, AObj.sh] at h ⊢; exact PV.nls_sh k h
theorem all_nl_sh (k : Nat) {os : List AObj} (h : os.all AObj.nl = true) : (os.map (AObj.sh k)).all AObj.nl = true := by
  rw [List.all_eq_true] at *
  intro o ho
  obtain ⟨o', h1, rfl⟩ := List.mem_map.1 ho
  exact AObj.nl_sh k (h o' h1)
theorem GoodN.app {σ τ : List AObj} (h : GoodN σ) (k : GoodN τ) : GoodN (σ ++ τ.map (AObj.sh σ.length)) :=
  ⟨h.1.app k.1, by rw [List.all_append, h.2, all_nl_sh _ k.2]; rfl⟩
theorem all_nl_set {os : List AObj} (h : os.all AObj.nl = true) (i : Nat) {o : AObj} (ho : o.nl = true) : (os.set i o).all AObj.nl = true := by
  rw [List.all_eq_true] at *
  intro x hx
  rcases List.mem_or_eq_of_mem_set hx with hx | rfl
  · exact h x hx
  · exact ho

theorem OwnIn.shift {α : Type} [Enc α] [Own α] {σ : List AObj} (τ : List AObj) {ids : List Nat} {p : PV} {x : α} (h : OwnIn σ ids p x) : OwnIn (τ ++ σ.map (AObj.sh τ.length)) (ids.map (· + τ.length)) (p.sh τ.length) x :=
  ⟨Own.shift τ h.own, by
    rw [List.nodup_iff_pairwise_ne] at *
    exact List.pairwise_map.2 (h.nd.imp fun hab => by omega), fun i hi => by
    obtain ⟨j, hj, rfl⟩ := List.mem_map.1 hi
    have := h.lt j hj; simp; omega⟩
theorem OwnIn.grow {α : Type} [Enc α] [Own α] {σ : List AObj} (τ : List AObj) {ids : List Nat} {p : PV} {x : α} (h : OwnIn σ ids p x) : OwnIn (σ ++ τ) ids p x :=
  ⟨Own.frame h.own fun i hi => List.getElem?_append_left (h.lt i hi), h.nd, fun i hi => by have := h.lt i hi; simp; omega⟩
theorem OwnIn.keep {α : Type} [Enc α] [Own α] {σ σ' : List AObj} {ids : List Nat} {p : PV} {x : α} (h : OwnIn σ ids p x) (hl : σ'.length = σ.length) (hk : ∀ i ∈ ids, σ'[i]? = σ[i]?) : OwnIn σ' ids p x :=
  ⟨Own.frame h.own hk, h.nd, fun i hi => by rw [hl]; exact h.lt i hi⟩
theorem OwnIn.bel {α : Type} [Enc α] [Own α] {σ : List AObj} {ids : List Nat} {p : PV} {x : α} (h : OwnIn σ ids p x) : p.bel σ.length = true := Own.bel h.own h.lt

/-! ### Made: toT -/
/-- A function that copies typed data into memory of its own. -/
def ToC {α : Type} [Enc α] [Own α] (fns : Fns) (f : FuncId) (sz : α → Nat) : Prop :=
  ∀ x : α, sz x ≤ 1048576 → ∃ p τ ids, ev fns f [Enc.pv x] [] = some (p, τ) ∧ OwnIn τ ids p x ∧ GoodN τ ∧ p.bel 0 = false
/-- A list, element by element. -/
theorem toC_list {α : Type} [Enc α] [Own α] {fns : Fns} {f fi : FuncId} {sz : α → Nat} {szl : List α → Nat} {z : PV} (hz : ∀ n, z.bel n = true) (hzn : z.nl = true) (hi : ToC fns fi sz) (hs : ∀ (x : α) xs, x ∈ xs → szl xs ≤ 1048576 → sz x ≤ 1048576) (hlen : ∀ xs, xs.length ≤ szl xs) (F : List α → Nat → List AObj → Option (PV × List AObj))
    (hgo : ∀ xs r, szl xs ≤ 1048576 → F xs 0 [.row (Enc.sz α) (List.replicate xs.length z) 0] = some r → ev fns f [Enc.pv xs] [] = some r)
    (hr : ∀ (xs : List α) (i : Nat) (σ : List AObj) (es : List PV) (q : PV) (τ : List AObj) (h : i < xs.length), szl xs ≤ 1048576 → σ[0]? = some (.row (Enc.sz α) es 0) → es.length = xs.length → (∃ e, es[i]? = some e ∧ (e = z)) → ev fns fi [Enc.pv xs[i]] [] = some (q, τ) → q.cells.length = 1 → q.okc = true → q.cells = [q] →
      F xs i σ = F xs (i + 1) ((σ ++ τ.map (AObj.sh σ.length)).set 0 (.row (Enc.sz α) (es.set i (q.sh σ.length)) 0)))
    (he : ∀ (xs : List α) (σ : List AObj) (es : List PV), szl xs ≤ 1048576 → σ[0]? = some (.row (Enc.sz α) es 0) → es.length = xs.length → Gud σ → F xs xs.length σ = some (.own 0 0 0 xs.length, σ))
    (hq : ∀ (σ : List AObj) (ids : List Nat) (p : PV) (x : α), Own.own σ ids p x → p.bel 0 = false → p.cells.length = 1 ∧ p.okc = true ∧ p.cells = [p]) :
    ToC (α := List α) fns f szl := by
  intro xs hx
  -- what holds of the state on the way
  have key : ∀ k, k ≤ xs.length → ∃ σ is ps, F xs 0 [.row (Enc.sz α) (List.replicate xs.length z) 0] = F xs k σ ∧ σ[0]? = some (.row (Enc.sz α) (ps ++ List.replicate (xs.length - k) z) 0) ∧ OwnEs σ is ps (xs.take k) ∧ is.flatten.Nodup ∧ (∀ i ∈ is.flatten, 0 < i ∧ i < σ.length) ∧ GoodN σ := by
    intro k
    induction k with
    | zero =>
      intro _
      refine ⟨_, [], [], rfl, by simp, trivial, by simp, by simp, ?_, ?_⟩
      · simp only [Gud, List.length_singleton, objsBel, Bool.and_true]
        exact bels_replicate (hz 1) _
      · simp only [List.all_cons, List.all_nil, Bool.and_true, AObj.nl]
        rw [PV.nls_iff]; intro p hp; rw [List.eq_of_mem_replicate hp]; exact hzn
    | succ k ih =>
      intro hk
      obtain ⟨σ, is, ps, h1, h2, h3, h4, h5, h6⟩ := ih (by omega)
      have hkl : k < xs.length := by omega
      have hl3 := h3.len
      have hpl : ps.length = k := by rw [hl3.1]; simp; omega
      obtain ⟨q, τ, ids, e1, e2, e3, e4⟩ := hi xs[k] (hs _ _ (List.getElem_mem hkl) hx)
      have hqq := hq τ ids q _ e2.own e4
      have hr' := hr xs k σ _ q τ hkl hx h2 (by simp [hpl]; omega) ⟨z, by rw [List.getElem?_append_right (by omega)]; simp [hpl, List.getElem?_replicate]; omega, rfl⟩ e1 hqq.1 hqq.2.1 hqq.2.2
      have hσ0 : 0 < σ.length := (List.getElem?_eq_some_iff.1 h2).1
      have hset : (ps ++ List.replicate (xs.length - k) z).set k (q.sh σ.length) = (ps ++ [q.sh σ.length]) ++ List.replicate (xs.length - (k + 1)) z := by
        rw [List.set_append_right _ _ (by omega), hpl, Nat.sub_self]
        obtain ⟨m, hm⟩ : ∃ m, xs.length - k = m + 1 := ⟨xs.length - k - 1, by omega⟩
        rw [hm, show xs.length - (k + 1) = m by omega]
        simp [List.replicate_succ]
      rw [hset] at hr'
      have hfr : ∀ j : Nat, 0 < j → ((σ ++ τ.map (AObj.sh σ.length)).set 0 (.row (Enc.sz α) ((ps ++ [q.sh σ.length]) ++ List.replicate (xs.length - (k + 1)) z) 0))[j]? = (σ ++ τ.map (AObj.sh σ.length))[j]? := by
        intro j hj
        rw [List.getElem?_set_ne (by omega)]
      have own2 := e2.shift σ
      refine ⟨_, is ++ [ids.map (· + σ.length)], ps ++ [q.sh σ.length], h1.trans hr', ?_, ?_, ?_, ?_, (show GoodN _ from ?_)⟩
      · rw [List.getElem?_set_self (by simp; omega)]
      · have ht : xs.take (k + 1) = xs.take k ++ [xs[k]] := by rw [List.take_add_one, List.getElem?_eq_getElem hkl]; rfl
        rw [ht]
        refine OwnEs.snoc ?_ ?_
        · refine h3.frame fun j hj => ?_
          have := h5 j hj
          rw [hfr j this.1, List.getElem?_append_left this.2]
        · refine Own.frame own2.own fun j hj => ?_
          obtain ⟨j', hj', rfl⟩ := List.mem_map.1 hj
          exact hfr _ (by omega)
      · simp only [List.flatten_append, List.flatten_cons, List.flatten_nil, List.append_nil]
        refine List.nodup_append.2 ⟨h4, own2.nd, fun a ha b hb => ?_⟩
        obtain ⟨j', hj', rfl⟩ := List.mem_map.1 hb
        have := (h5 a ha).2; omega
      · intro i hi2
        simp only [List.flatten_append, List.flatten_cons, List.flatten_nil, List.append_nil, List.mem_append] at hi2
        simp only [List.length_set, List.length_append, List.length_map]
        rcases hi2 with hi2 | hi2
        · have := h5 i hi2; omega
        · obtain ⟨j', hj', rfl⟩ := List.mem_map.1 hi2
          have := e2.lt j' hj'; omega
      · have hg := h6.app e3
        have hb : PV.bels (σ ++ τ.map (AObj.sh σ.length)).length ((ps ++ [q.sh σ.length]) ++ List.replicate (xs.length - (k + 1)) z) = true := by
          have h60 : PV.bels σ.length (ps ++ List.replicate (xs.length - k) z) = true := objsBel_get h6.1 h2
          rw [bels_append, Bool.and_eq_true] at h60
          rw [bels_append, bels_append]
          have b1 := PV.bels_le (show σ.length ≤ (σ ++ τ.map (AObj.sh σ.length)).length by simp) h60.1
          have b2 : PV.bels (σ ++ τ.map (AObj.sh σ.length)).length [q.sh σ.length] = true := by
            simp only [PV.bels, Bool.and_true]
            have := PV.bel_sh σ.length e2.bel
            rw [show (σ ++ τ.map (AObj.sh σ.length)).length = τ.length + σ.length by simp; omega]
            exact this
          rw [b1, b2, bels_replicate (hz _)]; rfl
        unfold GoodN
        constructor
        · unfold Gud
          rw [List.length_set]
          exact objsBel_set hg.1 _ _ _ hb
        · refine all_nl_set hg.2 _ ?_
          simp only [AObj.nl]
          rw [PV.nls_iff]
          intro p hp
          have h6n := h6.2
          rw [List.all_eq_true] at h6n
          have h60 := h6n _ (List.mem_of_getElem? h2)
          simp only [AObj.nl] at h60
          rw [PV.nls_iff] at h60
          rcases List.mem_append.1 hp with hp | hp
          · rcases List.mem_append.1 hp with hp | hp
            · exact h60 p (List.mem_append_left _ hp)
            · simp at hp; subst hp; exact PV.nl_sh _ (Own.nl e2.own)
          · rw [List.eq_of_mem_replicate hp]; exact hzn
  obtain ⟨σ, is, ps, h1, h2, h3, h4, h5, h6⟩ := key xs.length (Nat.le_refl _)
  rw [Nat.sub_self, List.replicate_zero, List.append_nil] at h2
  rw [List.take_length] at h3
  have hl3 := h3.len
  refine ⟨.own 0 0 0 xs.length, σ, 0 :: is.flatten, hgo xs _ hx (h1.trans (he xs σ ps hx h2 hl3.1 h6.1)), ⟨.inr ⟨0, 0, ps, is, rfl, h2, by have := hlen xs; omega, rfl, h3⟩, ?_, ?_⟩, h6, by simp [PV.bel]⟩
  · rw [List.nodup_cons]
    exact ⟨fun h => by have := (h5 0 h).1; omega, h4⟩
  · intro i hi2
    rcases List.mem_cons.1 hi2 with rfl | hi2
    · exact (List.getElem?_eq_some_iff.1 h2).1
    · exact (h5 i hi2).2

/-! ### Marked -/
/-- Objects that speak of few objects go on so. -/
def TkB (σ σ' : List AObj) : Prop := ∀ m l, objsBel m (σ.take l) = true → objsBel m (σ'.take l) = true
theorem TkB.refl (σ : List AObj) : TkB σ σ := fun _ _ h => h
theorem TkB.trans {a b c : List AObj} (h : TkB a b) (k : TkB b c) : TkB a c := fun m l x => k m l (h m l x)
theorem TkB.set {σ : List AObj} (i sz : Nat) {es : List PV} (ver : Nat) (he : ∀ m, PV.bels m es = true) : TkB σ (σ.set i (.row sz es ver)) := fun m l h => by
  rw [List.take_set]; exact objsBel_set h i sz ver (he m)
def MarkC {α : Type} [Enc α] [Own α] (fns : Fns) (f : FuncId) (W : α → Nat) (mk : α → Int → α) : Prop :=
  ∀ (σ : List AObj) (ids : List Nat) (p : PV) (x : α) (k : Int), OwnIn σ ids p x → Gud σ → 0 < k → k + W x ≤ 4611686018427387904 →
    ∃ σ', ev fns f [p, .val (.int .i64 k)] σ = some (.val (.int .i64 (k + W x)), σ') ∧ OwnIn σ' ids p (mk x k) ∧ σ'.length = σ.length ∧ (∀ j, j ∉ ids → σ'[j]? = σ[j]?) ∧ Gud σ' ∧ TkB σ σ'
def mkL {α : Type} (W : α → Nat) (mk : α → Int → α) : List α → Int → List α
  | [], _ => []
  | x :: xs, k => mk x k :: mkL W mk xs (k + W x)
def sumW {α : Type} (W : α → Nat) : List α → Nat
  | [] => 0
  | x :: xs => W x + sumW W xs
theorem mkL_len {α : Type} (W : α → Nat) (mk : α → Int → α) : ∀ (xs : List α) (k : Int), (mkL W mk xs k).length = xs.length
  | [], _ => rfl
  | x :: xs, k => by simp [mkL, mkL_len W mk xs]
theorem markC_list {α : Type} [Enc α] [Own α] {fns : Fns} {f fi : FuncId} {W : α → Nat} {mk : α → Int → α} (hi : MarkC fns fi W mk) (F : Nat → Nat → Nat → Nat → Nat → Int → List AObj → Option (PV × List AObj))
    (hgo : ∀ id ver n k σ r, F σ.length id ver n 0 k σ = some r → ev fns f [.own id ver 0 n, .val (.int .i64 k)] σ = some r)
    (hr : ∀ n0 id ver n i (k k' : Int) (σ σ' : List AObj) (es : List PV) (p : PV), σ[id]? = some (.row (Enc.sz α) es ver) → es.length = n → n ≤ 140737488355328 → i < n → es[i]? = some p → p.okc = true → p.cells = [p] → ev fns fi [p, .val (.int .i64 k)] σ = some (.val (.int .i64 k'), σ') → F n0 id ver n i k σ = F n0 id ver n (i + 1) k' σ')
    (he : ∀ id ver n (k : Int) (σ : List AObj), Gud σ → F σ.length id ver n n k σ = some (.val (.int .i64 k), σ))
    (hnil : ∀ (k : Int) (σ : List AObj), Gud σ → ev fns f [.val (.slice none 0 0), .val (.int .i64 k)] σ = some (.val (.int .i64 k), σ))
    (hq : ∀ (σ : List AObj) (ids : List Nat) (p : PV) (x : α), Own.own σ ids p x → p.okc = true ∧ p.cells = [p]) :
    MarkC (α := List α) fns f (sumW W) (mkL W mk) := by
  intro σ ids p xs k h hg hk hk2
  rcases h.own with ⟨rfl, rfl, rfl⟩ | ⟨id, ver, es, is, rfl, h2, h3, rfl, h5⟩
  · exact ⟨σ, by simpa [sumW] using hnil k σ hg, ⟨.inl ⟨rfl, rfl, rfl⟩, by simp, by simp⟩, rfl, fun _ _ => rfl, hg, TkB.refl σ⟩
  have hnd := List.nodup_cons.1 h.nd
  have hl5 := h5.len
  -- on the way: the elements before are marked
  have key : ∀ (suf pre : List α) (σ1 : List AObj) (i1 i2 : List (List Nat)) (p1 p2 : List PV) (k : Int), pre.length + suf.length = xs.length → is = i1 ++ i2 → es = p1 ++ p2 → OwnEs σ1 i1 p1 pre → OwnEs σ1 i2 p2 suf → σ1.length = σ.length → (∀ j, j ∉ is.flatten → σ1[j]? = σ[j]?) → Gud σ1 → 0 < k → k + sumW W suf ≤ 4611686018427387904 →
      ∃ σ', F σ.length id ver xs.length pre.length k σ1 = some (.val (.int .i64 (k + sumW W suf)), σ') ∧ OwnEs σ' is es (pre ++ mkL W mk suf k) ∧ σ'.length = σ.length ∧ (∀ j, j ∉ is.flatten → σ'[j]? = σ[j]?) ∧ Gud σ' ∧ TkB σ1 σ' := by
    intro suf
    induction suf with
    | nil =>
      intro pre σ1 i1 i2 p1 p2 k hl e1 e2 o1 o2 l1 f1 g1 hk hk2
      have hp : pre.length = xs.length := by simpa using hl
      have o2l := o2.len
      have hi2 : i2 = [] := List.eq_nil_of_length_eq_zero (by rw [o2l.2]; rfl)
      have hp2 : p2 = [] := List.eq_nil_of_length_eq_zero (by rw [o2l.1]; rfl)
      subst hi2; subst hp2
      refine ⟨σ1, ?_, ?_, l1, f1, g1, TkB.refl σ1⟩
      · rw [hp, ← l1]
        have := he id ver xs.length k σ1 g1
        simpa [sumW] using this
      · rw [e1, e2]; simpa [mkL] using o1
    | cons x suf ih =>
      intro pre σ1 i1 i2 p1 p2 k hl e1 e2 o1 o2 l1 f1 g1 hk hk2
      obtain ⟨ix, i3, px, p3, rfl, rfl, ox, o3⟩ := OwnEs.cons o2
      simp only [sumW, Int.natCast_add] at hk2 ⊢
      have hsub : ∀ j ∈ ix, j ∈ is.flatten := fun j hj => by rw [e1]; simp [hj]
      have hndi := hnd.2
      rw [e1] at hndi
      simp only [List.flatten_append, List.flatten_cons] at hndi
      have hnd1 := List.nodup_append.1 hndi
      have hnd2 := List.nodup_append.1 hnd1.2.1
      have ownx : OwnIn σ1 ix px x := ⟨ox, hnd2.1, fun j hj => by rw [l1]; exact h.lt j (List.mem_cons_of_mem _ (hsub j hj))⟩
      obtain ⟨σ2, m1, m2, m3, m4, m5, m6⟩ := hi σ1 ix px x k ownx g1 hk (by omega)
      have hqx := hq σ1 ix px x ox
      have hid : σ1[id]? = some (.row (Enc.sz α) es ver) := by rw [f1 id hnd.1]; exact h2
      have o1l := o1.len
      have hpx : es[pre.length]? = some px := by rw [e2, List.getElem?_append_right (by omega)]; simp [o1l.1]
      have hround := hr σ.length id ver xs.length pre.length k _ σ1 σ2 es px hid hl5.1 h3 (by simp at hl; omega) hpx hqx.1 hqx.2 m1
      have := ih (pre ++ [mk x k]) σ2 (i1 ++ [ix]) i3 (p1 ++ [px]) p3 (k + W x) (by simp at hl ⊢; omega) (by simp [e1]) (by simp [e2])
        (OwnEs.snoc (o1.frame fun j hj => m4 j fun hj' => hnd1.2.2 j hj j (by simp [hj']) rfl) m2.own)
        (o3.frame fun j hj => m4 j fun hj' => hnd2.2.2 j hj' j hj rfl)
        (m3.trans l1) (fun j hj => by rw [m4 j fun hj' => hj (hsub j hj'), f1 j hj]) m5 (by omega) (by omega)
      obtain ⟨σ', n1, n2, n3, n4, n5, n6⟩ := this
      refine ⟨σ', ?_, ?_, n3, n4, n5, m6.trans n6⟩
      · rw [hround]
        simp only [List.length_append, List.length_singleton] at n1
        rw [n1]; congr 4; omega
      · simpa [mkL] using n2
  obtain ⟨σ', n1, n2, n3, n4, n5, n6⟩ := key xs [] σ [] is [] es k (by simp) (by simp) (by simp) trivial h5 rfl (fun _ _ => rfl) hg hk hk2
  refine ⟨σ', hgo id ver xs.length k σ _ n1, ⟨.inr ⟨id, ver, es, is, by rw [mkL_len], ?_, by rw [mkL_len]; exact h3, rfl, by simpa using n2⟩, h.nd, fun j hj => by rw [n3]; exact h.lt j hj⟩, n3, fun j hj => n4 j fun hj' => hj (List.mem_cons_of_mem _ hj'), n5, n6⟩
  rw [n4 id hnd.1]; exact h2

/-- A flat element: marked by w numbers. -/
class Flat (α : Type) [Enc α] [Own α] : Prop where
  iff : ∀ {σ : List AObj} {ids : List Nat} {p : PV} {x : α}, Own.own σ ids p x ↔ ids = [] ∧ p = Enc.pv x
instance : Flat Int := ⟨Iff.rfl⟩
instance : Flat Bool := ⟨Iff.rfl⟩
instance : Flat ByteArray := ⟨Iff.rfl⟩
theorem OwnEs.flat {α : Type} [Enc α] [Own α] [Flat α] {σ : List AObj} : ∀ {is : List (List Nat)} {es : List PV} {xs : List α}, OwnEs σ is es xs → is.flatten = [] ∧ es = xs.map Enc.pv
  | [], [], [], _ => ⟨rfl, rfl⟩
  | i :: is, p :: ps, x :: xs, h => by
    obtain ⟨rfl, rfl⟩ := Flat.iff.1 h.1
    obtain ⟨h1, h2⟩ := OwnEs.flat h.2
    exact ⟨by simpa using h1, by simp [h2]⟩
  | [], [], _ :: _, h => h.elim
  | [], _ :: _, _, h => h.elim
  | _ :: _, [], _, h => h.elim
  | _ :: _, _ :: _, [], h => h.elim
theorem OwnEs.ofFlat {α : Type} [Enc α] [Own α] [Flat α] {σ : List AObj} : ∀ (xs : List α), OwnEs σ (xs.map fun _ => []) (xs.map Enc.pv) xs
  | [] => trivial
  | x :: xs => ⟨Flat.iff.2 ⟨rfl, rfl⟩, OwnEs.ofFlat xs⟩
theorem flat_nil {α : Type} : ∀ (xs : List α), (xs.map fun _ => ([] : List Nat)).flatten = []
  | [] => rfl
  | x :: xs => by simp [flat_nil xs]
theorem own_flat {α : Type} [Enc α] [Own α] [Flat α] {σ : List AObj} {id ver : Nat} (xs : List α) (h : σ[id]? = some (.row (Enc.sz α) (xs.map Enc.pv) ver)) (hl : xs.length ≤ 140737488355328) : Own.own σ [id] (.own id ver 0 xs.length) xs :=
  .inr ⟨id, ver, xs.map Enc.pv, xs.map fun _ => [], rfl, h, hl, by rw [flat_nil], OwnEs.ofFlat xs⟩
theorem own_flat_iff {α : Type} [Enc α] [Own α] [Flat α] {σ : List AObj} {ids : List Nat} {p : PV} {xs : List α} (h : Own.own σ ids p xs) : (xs = [] ∧ ids = [] ∧ p = .val (.slice none 0 0)) ∨ ∃ id ver, p = .own id ver 0 xs.length ∧ σ[id]? = some (.row (Enc.sz α) (xs.map Enc.pv) ver) ∧ xs.length ≤ 140737488355328 ∧ ids = [id] := by
  rcases h with h | ⟨id, ver, es, is, h1, h2, h3, h4, h5⟩
  · exact .inl h
  · obtain ⟨e1, e2⟩ := h5.flat
    exact .inr ⟨id, ver, h1, by rw [← e2]; exact h2, h3, by rw [h4, e1]⟩
def mkF {α : Type} (w : Nat) (g : Int → α) (xs : List α) (k : Int) : List α := mkL (fun _ => w) (fun _ k => g k) xs k
theorem sumW_const {α : Type} (w : Nat) : ∀ xs : List α, sumW (fun _ => w) xs = w * xs.length
  | [] => rfl
  | x :: xs => by simp [sumW, sumW_const w xs, Nat.mul_add]; omega
theorem markC_flat {α : Type} [Enc α] [Own α] [Flat α] {fns : Fns} {f : FuncId} (w : Nat) (g : Int → α) (F : Nat → Nat → Nat → Nat → Nat → Int → List AObj → Option (PV × List AObj))
    (hgo : ∀ id ver n k σ r, F σ.length id ver n 0 k σ = some r → ev fns f [.own id ver 0 n, .val (.int .i64 k)] σ = some r)
    (hr : ∀ n0 id ver n i (k : Int) (σ : List AObj) (xs : List α) (h : i < xs.length), id < σ.length → σ[id]? = some (.row (Enc.sz α) (xs.map Enc.pv) ver) → xs.length = n → n ≤ 140737488355328 → 0 < k → k + w ≤ 4611686018427387904 → F n0 id ver n i k σ = F n0 id ver n (i + 1) (k + w) (σ.set id (.row (Enc.sz α) ((xs.set i (g k)).map Enc.pv) ver)))
    (he : ∀ id ver n (k : Int) (σ : List AObj), Gud σ → F σ.length id ver n n k σ = some (.val (.int .i64 k), σ))
    (hnil : ∀ (k : Int) (σ : List AObj), Gud σ → ev fns f [.val (.slice none 0 0), .val (.int .i64 k)] σ = some (.val (.int .i64 k), σ)) :
    MarkC (α := List α) fns f (fun xs => w * xs.length) (mkF w g) := by
  intro σ ids p xs k h hg hk hk2
  rcases own_flat_iff h.own with ⟨rfl, rfl, rfl⟩ | ⟨id, ver, rfl, h2, h3, rfl⟩
  · exact ⟨σ, by simpa using hnil k σ hg, ⟨.inl ⟨rfl, rfl, rfl⟩, by simp, by simp⟩, rfl, fun _ _ => rfl, hg, TkB.refl σ⟩
  have hlt : id < σ.length := h.lt id (by simp)
  have key : ∀ (suf pre : List α) (σ1 : List AObj) (k : Int), pre.length + suf.length = xs.length → σ1[id]? = some (.row (Enc.sz α) ((pre ++ suf).map Enc.pv) ver) → σ1.length = σ.length → (∀ j, j ≠ id → σ1[j]? = σ[j]?) → Gud σ1 → 0 < k → k + w * suf.length ≤ 4611686018427387904 →
      ∃ σ', F σ.length id ver xs.length pre.length k σ1 = some (.val (.int .i64 (k + (w * suf.length : Nat))), σ') ∧ σ'[id]? = some (.row (Enc.sz α) ((pre ++ mkF w g suf k).map Enc.pv) ver) ∧ σ'.length = σ.length ∧ (∀ j, j ≠ id → σ'[j]? = σ[j]?) ∧ Gud σ' ∧ TkB σ1 σ' := by
    intro suf
    induction suf with
    | nil =>
      intro pre σ1 k hl e1 l1 f1 g1 hk hk2
      have hp : pre.length = xs.length := by simpa using hl
      refine ⟨σ1, ?_, by simpa [mkF, mkL] using e1, l1, f1, g1, TkB.refl σ1⟩
      rw [hp, ← l1]
      simpa using he id ver xs.length k σ1 g1
    | cons x suf ih =>
      intro pre σ1 k hl e1 l1 f1 g1 hk hk2
      have hk2' : k + (w : Int) * (suf.length : Int) + w ≤ 4611686018427387904 := by
        have e : (w : Int) * (((x :: suf).length : Nat) : Int) = (w : Int) * (suf.length : Int) + w := by rw [List.length_cons, Int.natCast_add, Int.mul_add]; simp
        rw [e] at hk2; omega
      simp only [List.length_cons, Nat.mul_add, Nat.mul_one, Int.natCast_add, Int.natCast_mul] at hl ⊢
      have hw0 : (0 : Int) ≤ (w : Int) * (suf.length : Int) := Int.mul_nonneg (by omega) (by omega)
      have hround := hr σ.length id ver xs.length pre.length k σ1 (pre ++ x :: suf) (by simp) (by omega) e1 (by simp; omega) h3 hk (by omega)
      have hset : (pre ++ x :: suf).set pre.length (g k) = (pre ++ [g k]) ++ suf := by rw [List.set_append_right _ _ (Nat.le_refl _)]; simp
      rw [hset] at hround
      have hb : PV.bels σ1.length (((pre ++ [g k]) ++ suf).map Enc.pv) = true := bels_map _ _
      have := ih (pre ++ [g k]) (σ1.set id (.row (Enc.sz α) (((pre ++ [g k]) ++ suf).map Enc.pv) ver)) (k + w) (by simp; omega) (by rw [List.getElem?_set_self (by omega)]) (by simpa using l1)
        (fun j hj => by rw [List.getElem?_set_ne (Ne.symm hj)]; exact f1 j hj) (by unfold Gud; rw [List.length_set]; exact objsBel_set g1 _ _ _ hb) (by omega) (by simp only [Int.natCast_mul] at *; omega)
      obtain ⟨σ', n1, n2, n3, n4, n5, n6⟩ := this
      refine ⟨σ', ?_, by simpa [mkF, mkL] using n2, n3, n4, n5, (TkB.set id _ ver fun m => bels_map _ _).trans n6⟩
      rw [hround]
      simp only [List.length_append, List.length_singleton] at n1
      rw [n1]; congr 4; simp only [Int.natCast_mul]; omega
  obtain ⟨σ', n1, n2, n3, n4, n5, n6⟩ := key xs [] σ k (by simp) (by simpa using h2) rfl (fun _ _ => rfl) hg hk (by simpa using hk2)
  have hml : (mkF w g xs k).length = xs.length := mkL_len _ _ xs k
  refine ⟨σ', hgo id ver xs.length k σ _ n1, ⟨?_, h.nd, fun j hj => by rw [n3]; exact h.lt j hj⟩, n3, fun j hj => n4 j fun e => hj (by simp [e]), n5, n6⟩
  have := own_flat (mkF w g xs k) (by simpa using n2) (by rw [hml]; exact h3)
  rw [hml] at this; exact this

/-! ### Held -/
def HeldC {α : Type} [Enc α] [Own α] (fns : Fns) (f : FuncId) (W : α → Nat) (mk : α → Int → α) : Prop :=
  ∀ (σ : List AObj) (ids : List Nat) (p : PV) (x : α) (k : Int), Own.own σ ids p (mk x k) → 0 < k → k + W x ≤ 4611686018427387904 → ev fns f [Enc.pv (mk x k), .val (.int .i64 k)] [] = some (.val (.int .i64 (k + W x)), [])
theorem heldC_list {α : Type} [Enc α] [Own α] {fns : Fns} {f fi : FuncId} {W : α → Nat} {mk : α → Int → α} (hi : HeldC fns fi W mk) (F : List α → Nat → Int → Option (PV × List AObj))
    (hgo : ∀ ys k r, F ys 0 k = some r → ev fns f [Enc.pv ys, .val (.int .i64 k)] [] = some r)
    (hr : ∀ (ys : List α) (i : Nat) (k k' : Int) (h : i < ys.length), 0 ≤ k' → ys.length ≤ 140737488355328 → ev fns fi [Enc.pv ys[i], .val (.int .i64 k)] [] = some (.val (.int .i64 k'), []) → F ys i k = F ys (i + 1) k')
    (he : ∀ (ys : List α) (k : Int), F ys ys.length k = some (.val (.int .i64 k), [])) : HeldC (α := List α) fns f (sumW W) (mkL W mk) := by
  intro σ ids p xs k ho hk hk2
  have hlx := mkL_len W mk xs k
  have key : ∀ (suf : List α) (pre : List α) (k : Int), pre.length + suf.length ≤ 140737488355328 → (∀ y ∈ mkL W mk suf k, ∃ ids p, Own.own σ ids p y) → 0 < k → k + sumW W suf ≤ 4611686018427387904 → F (pre ++ mkL W mk suf k) pre.length k = some (.val (.int .i64 (k + sumW W suf)), []) := by
    intro suf
    induction suf with
    | nil => intro pre k _ _ _ _; simpa [mkL, sumW] using he pre k
    | cons x suf ih =>
      intro pre k hl hoy hk hk2
      simp only [sumW, Int.natCast_add, List.length_cons] at hk2 hl ⊢
      have hlen : pre.length < (pre ++ mkL W mk (x :: suf) k).length := by simp [mkL]
      have hat : (pre ++ mkL W mk (x :: suf) k)[pre.length] = mk x k := by simp [mkL]
      obtain ⟨ids, p, ho1⟩ := hoy (mk x k) (by simp [mkL])
      rw [hr _ pre.length k (k + W x) hlen (by omega) (by simp [mkL, mkL_len]; omega) (by rw [hat]; exact hi σ ids p x k ho1 hk (by omega))]
      have := ih (pre ++ [mk x k]) (k + W x) (by simp; omega) (fun y hy => hoy y (by simp [mkL, hy])) (by omega) (by omega)
      simp only [List.length_append, List.length_singleton] at this
      simp only [mkL]
      rw [show pre ++ mk x k :: mkL W mk suf (k + W x) = pre ++ [mk x k] ++ mkL W mk suf (k + W x) by simp, this]
      congr 4; omega
  have fin : xs.length ≤ 140737488355328 ∧ ∀ y ∈ mkL W mk xs k, ∃ ids p, Own.own σ ids p y := by
    rcases ho with ⟨h1, _⟩ | ⟨id, ver, es, is, h1, h2, h3, h4, h5⟩
    · have : xs.length = 0 := by rw [← hlx, h1]; rfl
      exact ⟨by omega, fun y hy => by rw [h1] at hy; simp at hy⟩
    · refine ⟨by rw [← hlx]; exact h3, fun y hy => ?_⟩
      exact OwnEs.mem h5 hy
  have := key xs [] k (by simpa using fin.1) fin.2 hk hk2
  exact hgo _ k _ (by simpa using this)
theorem heldC_flat {α : Type} [Enc α] [Own α] {fns : Fns} {f : FuncId} (w : Nat) (g : Int → α) (F : List α → Nat → Int → Option (PV × List AObj))
    (hgo : ∀ ys k r, F ys 0 k = some r → ev fns f [Enc.pv ys, .val (.int .i64 k)] [] = some r)
    (hr : ∀ (ys : List α) (i : Nat) (k : Int) (h : i < ys.length), 0 < k → k + w ≤ 4611686018427387904 → ys.length ≤ 140737488355328 → ys[i] = g k → F ys i k = F ys (i + 1) (k + w))
    (he : ∀ (ys : List α) (k : Int), F ys ys.length k = some (.val (.int .i64 k), [])) : HeldC (α := List α) fns f (fun xs => w * xs.length) (mkF w g) := by
  intro σ ids p xs k ho hk hk2
  have hlx : (mkF w g xs k).length = xs.length := mkL_len _ _ xs k
  have key : ∀ (suf : List α) (pre : List α) (k : Int), pre.length + suf.length ≤ 140737488355328 → 0 < k → k + (w : Int) * (suf.length : Int) ≤ 4611686018427387904 → F (pre ++ mkF w g suf k) pre.length k = some (.val (.int .i64 (k + (w * suf.length : Nat))), []) := by
    intro suf
    induction suf with
    | nil => intro pre k _ _ _; simpa [mkF, mkL] using he pre k
    | cons x suf ih =>
      intro pre k hl hk hk2
      have hk2' : k + (w : Int) * (suf.length : Int) + w ≤ 4611686018427387904 := by
        have e : (w : Int) * (((x :: suf).length : Nat) : Int) = (w : Int) * (suf.length : Int) + w := by rw [List.length_cons, Int.natCast_add, Int.mul_add]; simp
        rw [e] at hk2; omega
      have hw0 : (0 : Int) ≤ (w : Int) * (suf.length : Int) := Int.mul_nonneg (by omega) (by omega)
      simp only [List.length_cons] at hl
      have hlen : pre.length < (pre ++ mkF w g (x :: suf) k).length := by simp [mkF, mkL]
      have hat : (pre ++ mkF w g (x :: suf) k)[pre.length] = g k := by simp [mkF, mkL]
      have hml : (mkF w g (x :: suf) k).length = (x :: suf).length := mkL_len _ _ _ k
      rw [hr _ pre.length k hlen hk (by omega) (by rw [List.length_append, hml]; simp; omega) hat]
      have := ih (pre ++ [g k]) (k + w) (by simp; omega) (by omega) (by omega)
      simp only [List.length_append, List.length_singleton] at this
      have e2 : pre ++ mkF w g (x :: suf) k = pre ++ [g k] ++ mkF w g suf (k + w) := by simp [mkF, mkL]
      rw [e2, this]
      congr 4
      simp only [List.length_cons, Nat.mul_add, Nat.mul_one, Int.natCast_add, Int.natCast_mul]; omega
  have hl : xs.length ≤ 140737488355328 := by
    rcases ho with ⟨h1, _⟩ | ⟨id, ver, es, is, h1, h2, h3, h4, h5⟩
    · have : xs.length = 0 := by rw [← hlx, h1]; rfl
      omega
    · rw [← hlx]; exact h3
  have := key xs [] k (by simpa using hl) hk (by simpa using hk2)
  exact hgo _ k _ (by simpa using this)

/-! ### Calls that read owned data -/
theorem dfr_bel0 : ∀ (d : Nat) {σ : List AObj} {p q : PV}, p.bel 0 = true → dfr σ d p = some q → q = p := by
  intro d
  induction d with
  | zero => intro σ p q _ h; simp [dfr] at h
  | succ d ih =>
    intro σ p q hb h
    have many : ∀ {ps qs : List PV}, PV.bels 0 ps = true → mapO (dfr σ d) ps = some qs → qs = ps := by
      intro ps
      induction ps with
      | nil => intro qs _ h; simp [mapO] at h; exact h
      | cons p ps ihp =>
        intro qs hb h
        simp only [PV.bels, Bool.and_eq_true] at hb
        simp only [mapO] at h
        cases h1 : dfr σ d p with
        | none => rw [h1] at h; cases h
        | some q1 =>
          rw [h1] at h
          cases h2 : mapO (dfr σ d) ps with
          | none => rw [h2] at h; cases h
          | some qs1 =>
            rw [h2] at h
            injection h with h; subst h
            rw [ih hb.1 h1, ihp hb.2 h2]
    cases p with
    | any => simp [dfr] at h; first | exact h | exact h.symm
    | val v => simp [dfr] at h; exact h.symm
    | agg ps => simp only [dfr, Option.map_eq_some_iff] at h; obtain ⟨qs, h1, rfl⟩ := h; rw [many (by simpa [PV.bel] using hb) h1]
    | tup ps => simp only [dfr, Option.map_eq_some_iff] at h; obtain ⟨qs, h1, rfl⟩ := h; rw [many (by simpa [PV.bel] using hb) h1]
    | list a b c => simp [dfr] at h; exact h.symm
    | fptr a b => simp [dfr] at h; exact h.symm
    | tl a b => simp [dfr] at h
    | own a b c e => simp [PV.bel] at hb
    | ptr a b c e => simp [PV.bel] at hb
    | fn f ps => simp only [dfr, Option.map_eq_some_iff] at h; obtain ⟨qs, h1, rfl⟩ := h; rw [many (by simpa [PV.bel] using hb) h1]
theorem mapO_bel0 {σ : List AObj} {d : Nat} : ∀ {ps qs : List PV}, PV.bels 0 ps = true → mapO (dfr σ d) ps = some qs → qs = ps
  | [], qs, _, h => by simp [mapO] at h; exact h
  | p :: ps, qs, hb, h => by
    simp only [PV.bels, Bool.and_eq_true] at hb
    simp only [mapO] at h
    cases h1 : dfr σ d p with
    | none => rw [h1] at h; cases h
    | some q1 =>
      rw [h1] at h
      cases h2 : mapO (dfr σ d) ps with
      | none => rw [h2] at h; cases h
      | some qs1 =>
        rw [h2] at h
        injection h with h; subst h
        rw [dfr_bel0 d hb.1 h1, mapO_bel0 hb.2 h2]
/-- A call whose arguments are read from the state. -/
theorem callT_read {fns : Fns} {ss : List Sh} {f : FuncId} {args qs : List PV} {σ : List AObj} {r : PV × List AObj} (h : mapO (dfr σ 9) args = some qs) (he : ev fns f (PV.tys ss qs) [] = some r) (hn : r.1.nl = true ∧ r.2.all AObj.nl = true) :
    callT fns ss f args σ = some (behind σ r) := by
  unfold callT
  by_cases hb : PV.bels 0 args = true
  · rw [if_pos hb]
    have := mapO_bel0 hb h
    subst this
    rw [he]; rfl
  · rw [if_neg hb, h]
    simp only [he, hn.1, hn.2, Bool.and_self, if_true]
theorem callN_read {fns : Fns} {f : FuncId} {args qs : List PV} {σ : List AObj} {r : PV × List AObj} (h : mapO (dfr σ 9) args = some qs) (he : ev fns f qs [] = some r) (hn : r.1.nl = true ∧ r.2.all AObj.nl = true) :
    callN fns f args σ = some (behind σ r) := by
  unfold callN
  by_cases hb : PV.bels 0 args = true
  · rw [if_pos hb]
    have := mapO_bel0 hb h
    subst this
    rw [he]; rfl
  · rw [if_neg hb, h]
    simp only [he, hn.1, hn.2, Bool.and_self, if_true]
mutual
theorem PV.bel_sh_zero (k : Nat) : ∀ (p : PV), (p.sh k).bel 0 = p.bel 0
  | .agg ps => by simp only [PV.bel, PV.sh]; exact PV.bels_sh_zero k ps
  | .tup ps => by simp only [PV.bel, PV.sh]; exact PV.bels_sh_zero k ps
  | .fn f ps => by simp only [PV.bel, PV.sh]; exact PV.bels_sh_zero k ps
  | .own _ _ _ _ => by simp [PV.bel, PV.sh]
  | .ptr _ _ _ _ => by simp [PV.bel, PV.sh]
  | .any => by simp [PV.sh]
  | .val _ => by simp [PV.sh]
  | .list _ _ _ => by simp [PV.sh]
  | .fptr _ _ => by simp [PV.sh]
  | .tl _ xs => by simp only [PV.bel, PV.sh]; exact PV.bels_sh_zero k xs
theorem PV.bels_sh_zero (k : Nat) : ∀ (ps : List PV), PV.bels 0 (PV.shs k ps) = PV.bels 0 ps
  | [] => by simp [PV.shs]
  | p :: ps => by simp only [PV.bels, PV.shs, PV.bel_sh_zero k p, PV.bels_sh_zero k ps]
end
/-- A call of such a function, behind two objects and others. -/
theorem ToC.call {α : Type} [Enc α] [Own α] {fns : Fns} {f : FuncId} {sz : α → Nat} (h : ToC fns f sz) (x : α) (hx : sz x ≤ 1048576) (rest : List AObj) (hg : objsBel (rest.length + 1 + 1) rest = true) (hn : rest.all AObj.nl = true) :
    ∃ q rest' ids, (∀ r0 r1, callN fns f [Enc.pv x] (r0 :: r1 :: rest) = some (q, r0 :: r1 :: rest')) ∧ (∀ r0 r1, OwnIn (r0 :: r1 :: rest') ids q x) ∧ (∀ i ∈ ids, rest.length + 2 ≤ i) ∧ (∃ more, rest' = rest ++ more) ∧ q.bel 0 = false ∧ q.nl = true ∧ objsBel (rest'.length + 1 + 1) rest' = true ∧ rest'.all AObj.nl = true := by
  obtain ⟨p, τ, ids, e1, e2, e3, e4⟩ := h x hx
  refine ⟨p.sh (rest.length + 1 + 1), rest ++ τ.map (AObj.sh (rest.length + 1 + 1)), ids.map (· + (rest.length + 1 + 1)), fun r0 r1 => ?_, fun r0 r1 => ?_, fun i hi => ?_, ⟨_, rfl⟩, ?_, PV.nl_sh _ (Own.nl e2.own), ?_, ?_⟩
  · unfold callN
    rw [if_pos (by simp [PV.bels]), e1]
    simp [behind]
  · have := e2.shift (r0 :: r1 :: rest)
    simpa using this
  · obtain ⟨j, _, rfl⟩ := List.mem_map.1 hi; omega
  · rw [PV.bel_sh_zero]; exact e4
  · rw [List.length_append, List.length_map]
    refine objsBel_app (objsBel_mono (by omega) hg) ?_
    have := objsBel_sh (k := rest.length + 1 + 1) e3.1
    rw [show rest.length + τ.length + 1 + 1 = τ.length + (rest.length + 1 + 1) by omega]
    exact this
  · rw [List.all_append, hn, all_nl_sh _ e3.2]; rfl
/-! ### Calls told as facts: for runs over states that are not written out. -/
theorem callN_lone {fns : Fns} {f : FuncId} {args : List PV} {σ : List AObj} {r : PV} (hb : PV.bels 0 args = true) (he : ev fns f args [] = some (r, [])) (hr : r.bel 0 = true) : callN fns f args σ = some (r, σ) := by
  unfold callN
  rw [if_pos hb, he]
  simp [behind, PV.sh_bel0 _ hr]
theorem callT_lone {fns : Fns} {ss : List Sh} {f : FuncId} {args : List PV} {σ : List AObj} {r : PV} (hb : PV.bels 0 args = true) (he : ev fns f (PV.tys ss args) [] = some (r, [])) (hr : r.bel 0 = true) : callT fns ss f args σ = some (r, σ) := by
  unfold callT
  rw [if_pos hb, he]
  simp [behind, PV.sh_bel0 _ hr]
theorem callT_readL {fns : Fns} {ss : List Sh} {f : FuncId} {args qs : List PV} {σ : List AObj} {r : PV} (h : mapO (dfr σ 9) args = some qs) (he : ev fns f (PV.tys ss qs) [] = some (r, [])) (hr : r.bel 0 = true) (hn : r.nl = true) : callT fns ss f args σ = some (r, σ) := by
  rw [callT_read h he ⟨hn, rfl⟩]
  simp [behind, PV.sh_bel0 _ hr]
/-- A call whose result is frozen where it is called. -/
theorem cz_made {fns : Fns} {f : FuncId} {args : List PV} {r : PV × List AObj} {q : PV} (hb : PV.bels 0 args = true) (h : callV fns (ev fns) (.val (.func (.func f) #[] #[])) args [] = some r) (hd : dfr r.2 9 r.1 = some q) (σ : List AObj) : cz true (callV fns (ev fns)) (.val (.func (.func f) #[] #[])) args σ = some (q, σ) := by
  rw [cz_true, if_pos (by simp [PV.bels, hb]), h]
  simp only [hd, Option.map_some]
theorem callT_loneT {fns : Fns} {ss : List Sh} {f : FuncId} {args qs : List PV} {σ : List AObj} {r : PV} (hb : PV.bels 0 args = true) (ht : PV.tys ss args = qs) (he : ev fns f qs [] = some (r, [])) (hr : r.bel 0 = true) : callT fns ss f args σ = some (r, σ) := callT_lone hb (by rw [ht]; exact he) hr
theorem callN_made {fns : Fns} {f : FuncId} {args : List PV} {σ : List AObj} {r : PV × List AObj} (hb : PV.bels 0 args = true) (he : ev fns f args [] = some r) : callN fns f args σ = some (behind σ r) := by
  unfold callN
  rw [if_pos hb, he]; rfl
/-- A call that makes owned data, behind a state. -/
theorem ToC.callS {α : Type} [Enc α] [Own α] {fns : Fns} {f : FuncId} {sz : α → Nat} (h : ToC fns f sz) (x : α) (hx : sz x ≤ 1048576) (σ : List AObj) (hg : GoodN σ) :
    ∃ p σ' ids, callN fns f [Enc.pv x] σ = some (p, σ') ∧ OwnIn σ' ids p x ∧ (∀ i ∈ ids, σ.length ≤ i) ∧ (∃ more, σ' = σ ++ more) ∧ GoodN σ' ∧ p.bel 0 = false := by
  obtain ⟨p, τ, ids, e1, e2, e3, e4⟩ := h x hx
  refine ⟨p.sh σ.length, σ ++ τ.map (AObj.sh σ.length), ids.map (· + σ.length), ?_, e2.shift σ, fun i hi => ?_, ⟨_, rfl⟩, hg.app e3, ?_⟩
  · rw [callN_made (by simp [PV.bels]) e1]; rfl
  · obtain ⟨j, _, rfl⟩ := List.mem_map.1 hi; omega
  · rw [PV.bel_sh_zero]; exact e4
theorem OwnIn.read {α : Type} [Enc α] [Own α] {σ : List AObj} {ids : List Nat} {p : PV} {x : α} (h : OwnIn σ ids p x) (hd : Own.dep α ≤ 9) : ∃ q, dfr σ 9 p = some q ∧ PV.ty (Own.sh α) q = Enc.pv x := Own.read h.own 9 hd
theorem GoodN.nil : GoodN [] := ⟨by simp [Gud, objsBel], by simp⟩
/-- A new object behind good ones. -/
theorem GoodN.snoc {σ : List AObj} (h : GoodN σ) {sz : Nat} {es : List PV} {ver : Nat} (hb : PV.bels σ.length es = true) (hn : PV.nls es = true) : GoodN (σ ++ [.row sz es ver]) := by
  refine ⟨?_, by rw [List.all_append, h.2]; simpa [AObj.nl] using hn⟩
  unfold Gud
  rw [List.length_append]
  refine objsBel_app (objsBel_mono (by omega) h.1) ?_
  simp only [objsBel, Bool.and_true]
  exact PV.bels_le (by omega) hb
@[simp] theorem set_snoc_last {α : Type} (l : List α) (a b : α) : (l ++ [a]).set l.length b = l ++ [b] := by
  rw [List.set_append_right _ _ (Nat.le_refl _)]; simp
end Aw
end Go.Proofs.Ytoliadfdklfmfaa
