/- Frames by their living slots; what a ghost does. -/
import Derived.Test.YtegjfjckijmgcaaAw18
set_option linter.unusedVariables false
set_option linter.unusedSimpArgs false
namespace Go.Proofs.Ytegjfjckijmgcaa
namespace Aw

abbrev Fr := List (Nat × PV)
def look : Fr → Nat → PV
  | [], _ => .any
  | (k, v) :: l, t => if k = t then v else look l t
def put : Fr → Nat → PV → Fr
  | [], t, p => [(t, p)]
  | (k, v) :: l, t, p => if k < t then (t, p) :: (k, v) :: l else if t = k then (t, p) :: l else (k, v) :: put l t p
def kil : Fr → Nat → Fr
  | [], _ => []
  | (k, v) :: l, t => if k = t then kil l t else (k, v) :: kil l t
def kils : Fr → List Nat → Fr
  | l, [] => l
  | l, t :: ts => kils (kil l t) ts
def putD (l : Fr) (d : Option Nat) (p : PV) : Fr := match d with | some d => put l d p | none => l
/-- What an operation that is not wanted leaves. -/
def kilD (l : Fr) (d : Option Nat) : Fr := putD l d (.val undef)
/-- All slots. -/
def dn (N : Nat) (l : Fr) : List PV := (List.range N).map (look l)

theorem look_put (t : Nat) (p : PV) (u : Nat) : ∀ l : Fr, look (put l t p) u = if u = t then p else look l u
  | [] => by simp only [put, look]; split <;> split <;> simp_all
  | (k, v) :: l => by
    simp only [put]
    by_cases h1 : k < t
    · rw [if_pos h1]
      by_cases h2 : u = t
      · subst h2; simp [look]
      · have : ¬ t = u := fun e => h2 e.symm
        rw [if_neg h2]; simp only [look, if_neg this]
    · rw [if_neg h1]
      by_cases h3 : t = k
      · rw [if_pos h3]; subst h3
        by_cases h2 : u = t
        · subst h2; simp [look]
        · have : ¬ t = u := fun e => h2 e.symm
          rw [if_neg h2]; simp only [look, if_neg this]
      · rw [if_neg h3]; simp only [look, look_put t p u l]
        by_cases h2 : k = u
        · have : ¬ u = t := by omega
          rw [if_pos h2, if_neg this, if_pos h2]
        · rw [if_neg h2, if_neg h2]
theorem look_kil (t u : Nat) : ∀ l : Fr, look (kil l t) u = if u = t then .any else look l u
  | [] => by simp [kil, look]
  | (k, v) :: l => by
    simp only [kil]
    by_cases h1 : k = t
    · rw [if_pos h1, look_kil t u l]; subst h1
      by_cases h2 : u = k
      · rw [if_pos h2, if_pos h2]
      · have : ¬ k = u := fun e => h2 e.symm
        rw [if_neg h2, if_neg h2]; simp only [look, if_neg this]
    · rw [if_neg h1]; simp only [look, look_kil t u l]
      by_cases h2 : k = u
      · have : ¬ u = t := by omega
        rw [if_pos h2, if_neg this, if_pos h2]
      · rw [if_neg h2, if_neg h2]
theorem look_kils (u : Nat) : ∀ (ts : List Nat) (l : Fr), look (kils l ts) u = look l u ∨ look (kils l ts) u = .any
  | [], l => .inl rfl
  | t :: ts, l => by
    rcases look_kils u ts (kil l t) with h | h
    · simp only [kils, h, look_kil]
      split
      · exact .inr rfl
      · exact .inl rfl
    · exact .inr h
theorem dn_length (N : Nat) (l : Fr) : (dn N l).length = N := by simp [dn]
theorem dn_get (N : Nat) (l : Fr) (t : Nat) : (dn N l)[t]? = if t < N then some (look l t) else none := by
  simp only [dn, List.getElem?_map]
  rcases Nat.lt_or_ge t N with h | h
  · simp [h]
  · simp [h, Nat.not_lt.2 h]
theorem setD_dn (N : Nat) (l : Fr) (d : Option Nat) (p : PV) : setD (dn N l) d p = dn N (putD l d p) := by
  cases d with
  | none => rfl
  | some d =>
    apply List.ext_getElem?
    intro i
    simp only [setD, putD, List.getElem?_set, dn_get, look_put, dn_length]
    split
    · subst_vars; split <;> simp_all
    · rename_i h
      have : ¬ i = d := fun e => h e.symm
      simp [this]
theorem setD_dn_any (N : Nat) (l : Fr) (d : Option Nat) : setD (dn N l) d (.val undef) = dn N (kilD l d) := setD_dn N l d _
theorem aev_dn {N : Nat} {l : Fr} {t : Nat} (h : t < N) : aev (dn N l) (.tmp t) = look l t := by
  simp [aev, dn_get, h]
/-- The first slots: the arguments. -/
def frA : Nat → List PV → Fr
  | _, [] => []
  | k, p :: ps => frA (k + 1) ps ++ [(k, p)]
theorem look_append (l l' : Fr) (t : Nat) (h : ∀ v, (t, v) ∉ l) : look (l ++ l') t = look l' t := by
  induction l with
  | nil => rfl
  | cons e l ih =>
    obtain ⟨k, v⟩ := e
    have hk : ¬ k = t := fun e => h v (by simp [e])
    simp only [List.cons_append, look, if_neg hk]
    exact ih fun v hv => h v (List.mem_cons_of_mem _ hv)
theorem frA_mem {k t : Nat} {v : PV} : ∀ {args : List PV} {k : Nat}, (t, v) ∈ frA k args → k ≤ t
  | [], k, h => by simp [frA] at h
  | p :: ps, k, h => by
    simp only [frA, List.mem_append, List.mem_singleton, Prod.mk.injEq] at h
    rcases h with h | ⟨rfl, _⟩
    · have := frA_mem (k := k) h; omega
    · omega
theorem look_mem_or {t : Nat} : ∀ {l l' : Fr}, look (l ++ l') t = look l t ∨ ∀ v, (t, v) ∉ l
  | [], l' => .inr fun v h => by simp at h
  | (k, v) :: l, l' => by
    by_cases hk : k = t
    · left; simp [look, hk]
    · rcases @look_mem_or t l l' with h | h
      · left; simp only [List.cons_append, look, if_neg hk]; exact h
      · right; intro u hu
        rcases List.mem_cons.1 hu with e | hu
        · injection e with e1 e2; exact hk e1.symm
        · exact h u hu
theorem dn_init (N : Nat) (args : List PV) (h : args.length ≤ N) : args ++ List.replicate (N - args.length) .any = dn N (frA 0 args) := by
  have key : ∀ (args : List PV) (k i : Nat), look (frA k args) i = if k ≤ i then (args[i - k]?).getD .any else .any := by
    intro args
    induction args with
    | nil => intro k i; simp [look, frA]
    | cons p ps ih =>
      intro k i
      by_cases h0 : k = i
      · subst h0
        rw [frA, look_append _ _ _ fun v hv => by have := frA_mem (k := k) hv; omega]
        simp [look]
      · have e : look (frA k (p :: ps)) i = look (frA (k + 1) ps) i := by
          rw [frA]
          rcases @look_mem_or i (frA (k + 1) ps) [(k, p)] with h | h
          · exact h
          · rw [look_append _ _ _ h]
            simp only [look, if_neg h0]
            have : ∀ l : Fr, (∀ v, (i, v) ∉ l) → look l i = .any := by
              intro l
              induction l with
              | nil => intro _; rfl
              | cons e l ih2 =>
                obtain ⟨a, b⟩ := e
                intro hl
                have : ¬ a = i := fun e => hl b (by simp [e])
                simp only [look, if_neg this]
                exact ih2 fun v hv => hl v (List.mem_cons_of_mem _ hv)
            rw [this _ h]
        rw [e, ih]
        by_cases h1 : k + 1 ≤ i
        · rw [if_pos h1, if_pos (by omega)]
          have : i - k = (i - (k + 1)) + 1 := by omega
          rw [this]; simp
        · rw [if_neg h1, if_neg (by omega)]
  apply List.ext_getElem?
  intro i
  rw [dn_get, key]
  simp only [Nat.zero_le, if_true, Nat.sub_zero]
  rcases Nat.lt_or_ge i args.length with h1 | h1
  · rw [List.getElem?_append_left h1, if_pos (by omega)]
    simp [h1]
  · rw [List.getElem?_append_right h1]
    simp only [List.getElem?_replicate]
    have : args[i]? = none := List.getElem?_eq_none h1
    rw [this]
    rcases Nat.lt_or_ge i N with h2 | h2
    · rw [if_pos (by omega), if_pos h2]; rfl
    · rw [if_neg (by omega), if_neg (by omega)]

theorem Imp_weak {n N : Nat} {l l' : Fr} {σ : List AObj} (h : ∀ u, look l' u = look l u ∨ look l' u = .any) : Imp n (dn N l) σ (dn N l') σ := by
  rintro g0 a w hn ⟨ρ, h1, h2, h3⟩
  refine ⟨ρ, h1, h2, h3.defers, by rw [h3.size, dn_length, dn_length], fun i p hp => ?_⟩
  rw [dn_get] at hp
  split at hp
  · rename_i hi
    injection hp with hp; subst hp
    obtain ⟨v, k1, k2⟩ := h3.slot i (look l i) (by rw [dn_get, if_pos hi])
    rcases h i with e | e
    · exact ⟨v, k1, by rw [e]; exact k2⟩
    · exact ⟨v, k1, by rw [e]; exact R_any _ _⟩
  · cases hp

def frBel (n t : Nat) : Fr → Bool
  | [] => true
  | (k, v) :: l => (k == t || v.bel n) && frBel n t l
theorem frBel_look {n t u : Nat} : ∀ {l : Fr}, frBel n t l = true → u ≠ t → (look l u).bel n = true
  | [], _, _ => by simp [look, PV.bel]
  | (k, v) :: l, h, hu => by
    simp only [frBel, Bool.and_eq_true, Bool.or_eq_true, beq_iff_eq] at h
    simp only [look]
    split
    · subst_vars; exact h.1.resolve_left (fun e => hu e)
    · exact frBel_look h.2 hu

/-! ### Versions that begin at 0 again -/
mutual
def PV.nv (σ : List AObj) (n : Nat) : PV → PV
  | .agg ps => .agg (PV.nvs σ n ps)
  | .tup ps => .tup (PV.nvs σ n ps)
  | .fn f ps => .fn f (PV.nvs σ n ps)
  | .own id ver off len => if id < n then .own id ver off len else match σ[id]? with
    | some (.row _ _ ver') => if ver = ver' then .own id 0 off len else .any
    | none => .any
  | .ptr id ver i off => if id < n then .ptr id ver i off else match σ[id]? with
    | some (.row _ _ ver') => if ver = ver' then .ptr id 0 i off else .any
    | none => .any
  | .tl _ _ => .any
  | .any => .any
  | .val v => .val v
  | .list a b c => .list a b c
  | .fptr a b => .fptr a b
def PV.nvs (σ : List AObj) (n : Nat) : List PV → List PV
  | [] => []
  | p :: ps => PV.nv σ n p :: PV.nvs σ n ps
end
theorem PV.nvs_map (σ : List AObj) (n : Nat) : ∀ ps : List PV, PV.nvs σ n ps = ps.map (PV.nv σ n)
  | [] => rfl
  | p :: ps => by simp [PV.nvs, PV.nvs_map σ n ps]
theorem PV.nv_cells (σ : List AObj) (n : Nat) (p : PV) : (PV.nv σ n p).cells = p.cells.map (PV.nv σ n) := by
  cases p with
  | agg ps => simp [PV.nv, PV.cells, PV.nvs_map]
  | own a b c d =>
    have : ∀ q : PV, (q = .own a b c d ∨ q = .own a 0 c d ∨ q = .any) → q.cells = [q] := by rintro q (rfl | rfl | rfl) <;> rfl
    show (PV.nv σ n (.own a b c d)).cells = [PV.nv σ n (.own a b c d)]
    refine this _ ?_
    simp only [PV.nv]
    split
    · exact .inl rfl
    · split
      · split
        · exact .inr (.inl rfl)
        · exact .inr (.inr rfl)
      · exact .inr (.inr rfl)
  | ptr a b c d =>
    have : ∀ q : PV, (q = .ptr a b c d ∨ q = .ptr a 0 c d ∨ q = .any) → q.cells = [q] := by rintro q (rfl | rfl | rfl) <;> rfl
    show (PV.nv σ n (.ptr a b c d)).cells = [PV.nv σ n (.ptr a b c d)]
    refine this _ ?_
    simp only [PV.nv]
    split
    · exact .inl rfl
    · split
      · split
        · exact .inr (.inl rfl)
        · exact .inr (.inr rfl)
      · exact .inr (.inr rfl)
  | _ => simp [PV.nv, PV.cells]
/-- The elements of a row: where they refer to nothing they stay as they are. -/
def nvRow (σ : List AObj) (n : Nat) (es : List PV) : List PV := if PV.bels 0 es = true then es else es.map (PV.nv σ n)
def nvObj (σ : List AObj) (n i : Nat) : AObj → AObj
  | .row sz es ver => .row sz (nvRow σ n es) (if i < n then ver else 0)
def nvObjs (σ : List AObj) (n : Nat) : Nat → List AObj → List AObj
  | _, [] => []
  | i, o :: os => nvObj σ n i o :: nvObjs σ n (i + 1) os
def nvFr (σ : List AObj) (n : Nat) : Fr → Fr
  | [] => []
  | (k, v) :: l => (k, PV.nv σ n v) :: nvFr σ n l

theorem nvObjs_length (σ : List AObj) (n : Nat) : ∀ (i : Nat) (os : List AObj), (nvObjs σ n i os).length = os.length
  | _, [] => rfl
  | i, o :: os => by simp [nvObjs, nvObjs_length σ n (i + 1) os]
theorem nvObjs_get (σ : List AObj) (n : Nat) : ∀ (i : Nat) (os : List AObj) (j : Nat), (nvObjs σ n i os)[j]? = (os[j]?).map (nvObj σ n (i + j))
  | _, [], j => by simp [nvObjs]
  | i, o :: os, 0 => by simp [nvObjs]
  | i, o :: os, j + 1 => by
    simp only [nvObjs, List.getElem?_cons_succ]
    rw [nvObjs_get σ n (i + 1) os j]
    have : i + 1 + j = i + (j + 1) := by omega
    rw [this]
theorem look_nvFr (σ : List AObj) (n t : Nat) : ∀ l : Fr, look (nvFr σ n l) t = PV.nv σ n (look l t)
  | [] => by simp [nvFr, look, PV.nv]
  | (k, v) :: l => by
    simp only [nvFr, look]
    split
    · rfl
    · exact look_nvFr σ n t l

/-- What refers to nothing stands in any state with the same cells. -/
theorem VR.same0 {g g' : G} (hf : ∀ b, g.frz b → g'.frz b) (hw : g'.w = g.w) : ∀ {m : Nat} {p : PV} {c : Value}, p.bel 0 = true → VR g m p c → VR g' m p c
  | 0, _, _, _, k => k.elim
  | m + 1, p, c, hb, k => by
    have ih := @VR.same0 g g' hf hw m
    cases p with
    | any => trivial
    | val v => exact k
    | agg ps =>
      simp only [VR, PV.bel] at k hb ⊢
      obtain ⟨cs, h1, h2, h3⟩ := k
      exact ⟨cs, h1, h2, fun j p v hp hv => ih (PV.bels_iff.1 hb p (List.mem_of_getElem? hp)) (h3 j p v hp hv)⟩
    | tup ps =>
      simp only [VR, PV.bel] at k hb ⊢
      obtain ⟨cs, h1, h2, h3⟩ := k
      exact ⟨cs, h1, h2, fun j p v hp hv => ih (PV.bels_iff.1 hb p (List.mem_of_getElem? hp)) (h3 j p v hp hv)⟩
    | fn f ps =>
      simp only [VR, PV.bel] at k hb ⊢
      obtain ⟨cs, h1, h2, h3⟩ := k
      exact ⟨cs, h1, h2, fun j p v hp hv => ih (PV.bels_iff.1 hb p (List.mem_of_getElem? hp)) (h3 j p v hp hv)⟩
    | list sz xs ex =>
      simp only [VR] at k ⊢
      obtain ⟨a, cap, h1, h2, h3, h4, h5, h6⟩ := k
      refine ⟨a, cap, h1, h2, h3, h4, h5, fun h0 => ?_⟩
      obtain ⟨ad, e1, e2, e3, e4⟩ := h6 h0
      refine ⟨ad, e1, e2, hf _ e3, fun j p hp => ?_⟩
      obtain ⟨v, q1, q2⟩ := e4 j p hp
      obtain ⟨x, hx, hp'⟩ := List.mem_flatMap.1 (List.mem_of_getElem? hp)
      exact ⟨v, by rw [hw]; exact q1, ih (bels_cells (h5 x hx).1 p hp') q2⟩
    | tl sz xs =>
      simp only [VR, PV.bel] at k hb ⊢
      obtain ⟨a, cap, h1, h2, h5, h6⟩ := k
      refine ⟨a, cap, h1, h2, h5, fun h0 => ?_⟩
      obtain ⟨ad, e1, e2, e3, e4⟩ := h6 h0
      refine ⟨ad, e1, e2, hf _ e3, fun j p hp => ?_⟩
      obtain ⟨v, q1, q2⟩ := e4 j p hp
      obtain ⟨x, hx, hp'⟩ := List.mem_flatMap.1 (List.mem_of_getElem? hp)
      exact ⟨v, by rw [hw]; exact q1, ih (bels_cells (PV.bels_iff.1 hb x hx) p hp') q2⟩
    | fptr cs off =>
      simp only [VR] at k ⊢
      obtain ⟨ad, e1, e2, e3, e4⟩ := k
      exact ⟨ad, e1, e2, hf _ e3, fun j p hp => let ⟨q0, v, q1, q2⟩ := e4 j p hp; ⟨q0, v, by rw [hw]; exact q1, ih q0 q2⟩⟩
    | own id ver off len => simp [PV.bel] at hb
    | ptr id ver i off => simp [PV.bel] at hb

theorem VR.nv {σ : List AObj} {ρ : List (Option Nat)} {w : World} {h : List Nat} {n : Nat} : ∀ {m : Nat} {p : PV} {c : Value}, VR ⟨σ, ρ, w, h⟩ m p c → VR ⟨nvObjs σ n 0 σ, ρ, w, h⟩ m (PV.nv σ n p) c
  | 0, _, _, k => k.elim
  | m + 1, p, c, k => by
    have ih := @VR.nv σ ρ w h n m
    have many : ∀ {ps : List PV} {cs : List Value}, (∀ (j : Nat) p v, ps[j]? = some p → cs[j]? = some v → VR ⟨σ, ρ, w, h⟩ m p v) → ∀ (j : Nat) p v, (PV.nvs σ n ps)[j]? = some p → cs[j]? = some v → VR ⟨nvObjs σ n 0 σ, ρ, w, h⟩ m p v := by
      intro ps cs h3 j p v hp hv
      rw [PV.nvs_map, List.getElem?_map, Option.map_eq_some_iff] at hp
      obtain ⟨q, hq, rfl⟩ := hp
      exact ih (h3 j q v hq hv)
    have keep : ∀ {p : PV}, p.bel 0 = true → VR ⟨σ, ρ, w, h⟩ (m + 1) p c → VR ⟨nvObjs σ n 0 σ, ρ, w, h⟩ (m + 1) p c := fun hb k => VR.same0 (g := ⟨σ, ρ, w, h⟩) (g' := ⟨nvObjs σ n 0 σ, ρ, w, h⟩) (fun b hb => hb) rfl hb k
    have get : ∀ {i sz : Nat} {es : List PV} {ver : Nat}, σ[i]? = some (.row sz es ver) → (nvObjs σ n 0 σ)[i]? = some (.row sz (nvRow σ n es) (if i < n then ver else 0)) ∧ (nvRow σ n es).length = es.length := by
      intro i sz es ver ho
      refine ⟨by rw [nvObjs_get, ho]; simp [nvObj], ?_⟩
      unfold nvRow; split <;> simp
    cases p with
    | any => trivial
    | val v => exact k
    | tl a b => simp only [PV.nv]; trivial
    | list a b c => exact keep rfl k
    | fptr a b => exact keep rfl k
    | agg ps =>
      simp only [VR, PV.nv] at k ⊢
      obtain ⟨cs, h1, h2, h3⟩ := k
      exact ⟨cs, h1, by rw [PV.nvs_map]; simpa using h2, many h3⟩
    | tup ps =>
      simp only [VR, PV.nv] at k ⊢
      obtain ⟨cs, h1, h2, h3⟩ := k
      exact ⟨cs, h1, by rw [PV.nvs_map]; simpa using h2, many h3⟩
    | fn f ps =>
      simp only [VR, PV.nv] at k ⊢
      obtain ⟨cs, h1, h2, h3⟩ := k
      exact ⟨cs, h1, by rw [PV.nvs_map]; simpa using h2, many h3⟩
    | own id ver off len =>
      simp only [VR] at k
      obtain ⟨a, cap, q1, q2, sz, es, v1, h1, h2, h3⟩ := k
      obtain ⟨g1, g2⟩ := get h1
      simp only [PV.nv]
      split
      · rename_i hid
        rw [if_pos hid] at g1
        simp only [VR]
        exact ⟨a, cap, q1, q2, sz, _, v1, g1, h2, fun e => by rw [g2]; exact h3 e⟩
      · rename_i hid
        rw [if_neg hid] at g1
        rw [h1]
        simp only
        split
        · rename_i e
          simp only [VR]
          exact ⟨a, cap, q1, q2, sz, _, 0, g1, Nat.le_refl _, fun _ => by rw [g2]; exact h3 e⟩
        · trivial
    | ptr id ver i off =>
      simp only [VR] at k
      obtain ⟨ad, q0, sz, es, v1, h1, h2, h3⟩ := k
      obtain ⟨g1, g2⟩ := get h1
      simp only [PV.nv]
      split
      · rename_i hid
        rw [if_pos hid] at g1
        simp only [VR]
        exact ⟨ad, q0, sz, _, v1, g1, h2, fun e => by rw [g2]; exact h3 e⟩
      · rename_i hid
        rw [if_neg hid] at g1
        rw [h1]
        simp only
        split
        · rename_i e
          simp only [VR]
          exact ⟨ad, q0, sz, _, 0, g1, Nat.le_refl _, fun _ => by rw [g2]; exact h3 e⟩
        · trivial

theorem nvRow_cells {σ : List AObj} {n : Nat} {es : List PV} {j : Nat} {p : PV} (hp : ((nvRow σ n es).flatMap PV.cells)[j]? = some p) : ∃ q, (es.flatMap PV.cells)[j]? = some q ∧ ((p = q ∧ q.bel 0 = true) ∨ p = PV.nv σ n q) := by
  unfold nvRow at hp
  split at hp
  · rename_i hb
    refine ⟨p, hp, .inl ⟨rfl, ?_⟩⟩
    obtain ⟨x, hx, hp'⟩ := List.mem_flatMap.1 (List.mem_of_getElem? hp)
    exact bels_cells (PV.bels_iff.1 hb x hx) p hp'
  · have e : (es.map (PV.nv σ n)).flatMap PV.cells = (es.flatMap PV.cells).map (PV.nv σ n) := by
      rw [List.flatMap_map, List.map_flatMap]
      congr 1; funext x; exact PV.nv_cells σ n x
    rw [e, List.getElem?_map, Option.map_eq_some_iff] at hp
    obtain ⟨q, hq, rfl⟩ := hp
    exact ⟨q, hq, .inr rfl⟩

theorem Imp_nv {n N : Nat} {l : Fr} {σ : List AObj} : Imp n (dn N l) σ (dn N (nvFr σ n l)) (nvObjs σ n 0 σ) := by
  rintro g0 a w hn ⟨ρ, h1, h2, h3⟩
  refine ⟨ρ, ⟨h1.hid, by rw [nvObjs_length]; exact h1.len, h1.inj, fun i sz es ver ho => ?_⟩, ⟨h2.h, h2.os, h2.tape, h2.output, h2.size, h2.block, h2.own, fun i sz es ver ho => ?_⟩, h3.defers, by rw [h3.size, dn_length, dn_length], fun i p hp => ?_⟩
  · rw [nvObjs_get, Option.map_eq_some_iff] at ho
    obtain ⟨⟨sz', es', ver'⟩, ho, he⟩ := ho
    simp only [nvObj, AObj.row.injEq] at he
    obtain ⟨rfl, rfl, _⟩ := he
    rcases h1.obj i sz' es' ver' ho with ⟨b, cs, e, fr, k1, k2, k3, k4, k5, k6⟩ | ⟨k1, k2⟩
    · refine .inl ⟨b, cs, e, fr, k1, k2, k3, fun x hx => ?_, ?_, fun j p hp => ?_⟩
      · unfold nvRow at hx
        split at hx
        · exact k4 x hx
        · obtain ⟨y, hy, rfl⟩ := List.mem_map.1 hx
          rw [PV.nv_cells, List.length_map]; exact k4 y hy
      · have : (nvRow σ n es').length = es'.length := by unfold nvRow; split <;> simp
        rw [this]; exact k5
      · obtain ⟨q, hq, hpq⟩ := nvRow_cells hp
        obtain ⟨v, q1, m, q2⟩ := k6 j q hq
        rcases hpq with ⟨rfl, hb⟩ | rfl
        · exact ⟨v, q1, m, VR.same0 (g := ⟨σ, ρ, w, g0.h⟩) (g' := ⟨nvObjs σ n 0 σ, ρ, w, g0.h⟩) (fun b hb => hb) rfl hb q2⟩
        · exact ⟨v, q1, m, q2.nv⟩
    · subst k2; exact .inr ⟨k1, by simp [nvRow, PV.bels]⟩
  · obtain ⟨es', ver', k1, k2, k3⟩ := h2.obj i sz es ver ho
    have hi : i < n := by rw [← hn]; exact (List.getElem?_eq_some_iff.1 ho).1
    refine ⟨nvRow σ n es', ver', by rw [nvObjs_get]; simp only at k1; rw [k1]; simp [nvObj, hi], k2, fun e => ?_⟩
    have : (nvRow σ n es').length = es'.length := by unfold nvRow; split <;> simp
    rw [this]; exact k3 e
  · rw [dn_get] at hp
    split at hp
    · rename_i hi
      injection hp with hp; subst hp
      obtain ⟨v, k1, m, k2⟩ := h3.slot i (look l i) (by rw [dn_get, if_pos hi])
      exact ⟨v, k1, m, by rw [look_nvFr]; exact k2.nv⟩
    · cases hp

/-! ### Objects at the end to which nothing refers go away -/
def frBelA (n : Nat) : Fr → Bool
  | [] => true
  | (_, v) :: l => v.bel n && frBelA n l
theorem frBelA_look {n u : Nat} : ∀ {l : Fr}, frBelA n l = true → (look l u).bel n = true
  | [], _ => by simp [look, PV.bel]
  | (k, v) :: l, h => by
    simp only [frBelA, Bool.and_eq_true] at h
    simp only [look]
    split
    · exact h.1
    · exact frBelA_look h.2
def gcOk (l : Fr) (σ : List AObj) (k : Nat) : Bool := frBelA k l && objsBel k (σ.take k)
def gcAt (l : Fr) (σ : List AObj) : Nat → Nat → Nat
  | 0, k => k
  | m + 1, k => if gcOk l σ k = true then k else gcAt l σ m (k + 1)
theorem gcAt_spec {l : Fr} {σ : List AObj} : ∀ (m k : Nat), k ≤ gcAt l σ m k ∧ (gcAt l σ m k < k + m → gcOk l σ (gcAt l σ m k) = true)
  | 0, k => ⟨Nat.le_refl _, fun h => by simp only [gcAt] at h; omega⟩
  | m + 1, k => by
    simp only [gcAt]
    split
    · rename_i h; exact ⟨Nat.le_refl _, fun _ => h⟩
    · obtain ⟨h1, h2⟩ := @gcAt_spec l σ m (k + 1)
      exact ⟨by omega, fun h => h2 (by omega)⟩
def gc (n : Nat) (l : Fr) (σ : List AObj) : List AObj := σ.take (gcAt l σ (σ.length - n) n)
theorem Imp_gc {n N : Nat} {l : Fr} {σ : List AObj} : Imp n (dn N l) σ (dn N l) (gc n l σ) := by
  unfold gc
  obtain ⟨h1, h2⟩ := @gcAt_spec l σ (σ.length - n) n
  generalize gcAt l σ (σ.length - n) n = k at h1 h2 ⊢
  by_cases hk : k < σ.length
  · have hok := h2 (by omega)
    simp only [gcOk, Bool.and_eq_true] at hok
    rintro g0 a w hn ⟨ρ, k1, k2, k3⟩
    have hcut : (G.mk σ ρ w g0.h).cut k = ⟨σ.take k, ρ.take k, w, g0.h⟩ := rfl
    refine ⟨ρ.take k, hcut ▸ k1.cut hok.2, hcut ▸ k2.cut (by omega), k3.defers, k3.size, fun i p hp => ?_⟩
    rw [dn_get] at hp
    split at hp
    · rename_i hi
      injection hp with hp; subst hp
      obtain ⟨v, e1, e2⟩ := k3.slot i (look l i) (by rw [dn_get, if_pos hi])
      exact ⟨v, e1, hcut ▸ e2.cut (frBelA_look hok.1)⟩
    · cases hp
  · rw [List.take_of_length_le (by omega)]; exact Imp.refl _ _ _

/-! ### Elements behind all references are forgotten -/
mutual
/-- How far a value reaches into an object. -/
def PV.ext (id : Nat) : PV → Nat
  | .agg ps => PV.exts id ps
  | .tup ps => PV.exts id ps
  | .fn _ ps => PV.exts id ps
  | .own id' _ off len => if id' = id then off + len else 0
  | .ptr id' _ i _ => if id' = id then i + 1 else 0
  | .tl _ xs => PV.exts id xs
  | .any => 0
  | .val _ => 0
  | .list _ _ _ => 0
  | .fptr _ _ => 0
def PV.exts (id : Nat) : List PV → Nat
  | [] => 0
  | p :: ps => max (PV.ext id p) (PV.exts id ps)
end
theorem PV.exts_le {id : Nat} : ∀ {ps : List PV} {p : PV}, p ∈ ps → p.ext id ≤ PV.exts id ps
  | [], p, h => by simp at h
  | q :: ps, p, h => by
    simp only [PV.exts]
    rcases List.mem_cons.1 h with rfl | h
    · omega
    · have := PV.exts_le (id := id) h; omega
theorem PV.exts_cells {id : Nat} {p : PV} : ∀ q ∈ p.cells, q.ext id ≤ p.ext id := by
  intro q hq
  cases p with
  | agg ps => simp only [PV.cells] at hq; simp only [PV.ext]; exact PV.exts_le hq
  | _ => simp only [PV.cells, List.mem_singleton] at hq; subst hq; exact Nat.le_refl _
def rowsExt (id : Nat) : List AObj → Nat
  | [] => 0
  | .row _ es _ :: os => max (if PV.bels 0 es = true then 0 else PV.exts id es) (rowsExt id os)
def frExt (id : Nat) : Fr → Nat
  | [] => 0
  | (_, v) :: l => max (v.ext id) (frExt id l)
def trObj (l : Fr) (σ : List AObj) (n i : Nat) : AObj → AObj
  | .row sz es ver => .row sz (if i < n then es else es.take (max (frExt i l) (rowsExt i σ))) ver
def trObjs (l : Fr) (σ : List AObj) (n : Nat) : Nat → List AObj → List AObj
  | _, [] => []
  | i, o :: os => trObj l σ n i o :: trObjs l σ n (i + 1) os
theorem trObjs_length (l : Fr) (σ : List AObj) (n : Nat) : ∀ (i : Nat) (os : List AObj), (trObjs l σ n i os).length = os.length
  | _, [] => rfl
  | i, o :: os => by simp [trObjs, trObjs_length l σ n (i + 1) os]
theorem trObjs_get (l : Fr) (σ : List AObj) (n : Nat) : ∀ (i : Nat) (os : List AObj) (j : Nat), (trObjs l σ n i os)[j]? = (os[j]?).map (trObj l σ n (i + j))
  | _, [], j => by simp [trObjs]
  | i, o :: os, 0 => by simp [trObjs]
  | i, o :: os, j + 1 => by
    simp only [trObjs, List.getElem?_cons_succ]
    rw [trObjs_get l σ n (i + 1) os j]
    have : i + 1 + j = i + (j + 1) := by omega
    rw [this]
theorem frExt_look {id t : Nat} : ∀ {l : Fr}, (look l t).ext id ≤ frExt id l
  | [] => by simp [look, PV.ext, frExt]
  | (k, v) :: l => by
    simp only [look, frExt]
    split
    · omega
    · have := @frExt_look id t l; omega
mutual
theorem PV.ext_bel0 {id : Nat} : ∀ {p : PV}, p.bel 0 = true → p.ext id = 0
  | .agg ps, h => by simp only [PV.bel] at h; simp only [PV.ext]; exact PV.exts_bel0 h
  | .tup ps, h => by simp only [PV.bel] at h; simp only [PV.ext]; exact PV.exts_bel0 h
  | .fn _ ps, h => by simp only [PV.bel] at h; simp only [PV.ext]; exact PV.exts_bel0 h
  | .own _ _ _ _, h => by simp [PV.bel] at h
  | .ptr _ _ _ _, h => by simp [PV.bel] at h
  | .tl _ xs, h => by simp only [PV.bel] at h; simp only [PV.ext]; exact PV.exts_bel0 h
  | .any, _ => by simp [PV.ext]
  | .val _, _ => by simp [PV.ext]
  | .list _ _ _, _ => by simp [PV.ext]
  | .fptr _ _, _ => by simp [PV.ext]
theorem PV.exts_bel0 {id : Nat} : ∀ {ps : List PV}, PV.bels 0 ps = true → PV.exts id ps = 0
  | [], _ => by simp [PV.exts]
  | p :: ps, h => by
    simp only [PV.bels, Bool.and_eq_true] at h
    simp only [PV.exts, PV.ext_bel0 h.1, PV.exts_bel0 h.2]; rfl
end
theorem rowsExt_get {id : Nat} : ∀ {os : List AObj} {i sz ver : Nat} {es : List PV}, os[i]? = some (.row sz es ver) → ∀ e ∈ es, e.ext id ≤ rowsExt id os
  | [], i, sz, ver, es, h, e, he => by simp at h
  | .row a b c :: os, 0, sz, ver, es, h, e, he => by
    simp at h; obtain ⟨rfl, rfl, rfl⟩ := h
    simp only [rowsExt]
    split
    · rename_i hb
      rw [PV.ext_bel0 (PV.bels_iff.1 hb e he)]; omega
    · have := PV.exts_le (id := id) he; omega
  | .row a b c :: os, i + 1, sz, ver, es, h, e, he => by
    simp at h
    have := @rowsExt_get id os i sz ver es h e he
    simp only [rowsExt]; omega

theorem VR.tr {σ : List AObj} {ρ : List (Option Nat)} {w : World} {h : List Nat} {n : Nat} {l : Fr} : ∀ {m : Nat} {p : PV} {c : Value}, (∀ id, p.ext id ≤ max (frExt id l) (rowsExt id σ)) → VR ⟨σ, ρ, w, h⟩ m p c → VR ⟨trObjs l σ n 0 σ, ρ, w, h⟩ m p c
  | 0, _, _, _, k => k.elim
  | m + 1, p, c, hx, k => by
    have ih := @VR.tr σ ρ w h n l m
    have many : ∀ {ps : List PV} {cs : List Value}, (∀ id, PV.exts id ps ≤ max (frExt id l) (rowsExt id σ)) → (∀ (j : Nat) p v, ps[j]? = some p → cs[j]? = some v → VR ⟨σ, ρ, w, h⟩ m p v) → ∀ (j : Nat) p v, ps[j]? = some p → cs[j]? = some v → VR ⟨trObjs l σ n 0 σ, ρ, w, h⟩ m p v := by
      intro ps cs hx h3 j p v hp hv
      exact ih (fun id => Nat.le_trans (PV.exts_le (List.mem_of_getElem? hp)) (hx id)) (h3 j p v hp hv)
    have keep : ∀ {p : PV}, p.bel 0 = true → VR ⟨σ, ρ, w, h⟩ (m + 1) p c → VR ⟨trObjs l σ n 0 σ, ρ, w, h⟩ (m + 1) p c := fun hb k => VR.same0 (g := ⟨σ, ρ, w, h⟩) (g' := ⟨trObjs l σ n 0 σ, ρ, w, h⟩) (fun b hb => hb) rfl hb k
    have get : ∀ {i sz : Nat} {es : List PV} {ver : Nat}, σ[i]? = some (.row sz es ver) → ∃ es', (trObjs l σ n 0 σ)[i]? = some (.row sz es' ver) ∧ ∀ k, k ≤ es.length → k ≤ max (frExt i l) (rowsExt i σ) → k ≤ es'.length := by
      intro i sz es ver ho
      refine ⟨if i < n then es else es.take (max (frExt i l) (rowsExt i σ)), by rw [trObjs_get, ho]; simp only [Option.map_some, trObj, Nat.zero_add], fun k h1 h2 => ?_⟩
      split
      · exact h1
      · rw [List.length_take]; omega
    cases p with
    | any => trivial
    | val v => exact k
    | list a b c => exact keep rfl k
    | fptr a b => exact keep rfl k
    | agg ps =>
      simp only [VR, PV.ext] at k hx ⊢
      obtain ⟨cs, h1, h2, h3⟩ := k
      exact ⟨cs, h1, h2, many hx h3⟩
    | tup ps =>
      simp only [VR, PV.ext] at k hx ⊢
      obtain ⟨cs, h1, h2, h3⟩ := k
      exact ⟨cs, h1, h2, many hx h3⟩
    | fn f ps =>
      simp only [VR, PV.ext] at k hx ⊢
      obtain ⟨cs, h1, h2, h3⟩ := k
      exact ⟨cs, h1, h2, many hx h3⟩
    | tl sz xs =>
      simp only [VR, PV.ext] at k hx ⊢
      obtain ⟨a, cap, h1, h2, h5, h6⟩ := k
      refine ⟨a, cap, h1, h2, h5, fun h0 => ?_⟩
      obtain ⟨ad, e1, e2, e3, e4⟩ := h6 h0
      refine ⟨ad, e1, e2, e3, fun j p hp => ?_⟩
      obtain ⟨v, q1, q2⟩ := e4 j p hp
      obtain ⟨x, hxm, hp'⟩ := List.mem_flatMap.1 (List.mem_of_getElem? hp)
      exact ⟨v, q1, ih (fun id => Nat.le_trans (PV.exts_cells p hp') (Nat.le_trans (PV.exts_le hxm) (hx id))) q2⟩
    | own id ver off len =>
      simp only [VR] at k ⊢
      obtain ⟨a, cap, q1, q2, sz, es, v1, h1, h2, h3⟩ := k
      obtain ⟨es', g1, g2⟩ := get h1
      have hxi := hx id
      simp only [PV.ext, if_pos] at hxi
      exact ⟨a, cap, q1, q2, sz, es', v1, g1, h2, fun e => ⟨g2 _ (h3 e).1 hxi, (h3 e).2⟩⟩
    | ptr id ver i off =>
      simp only [VR] at k ⊢
      obtain ⟨ad, q0, sz, es, v1, h1, h2, h3⟩ := k
      obtain ⟨es', g1, g2⟩ := get h1
      have hxi := hx id
      simp only [PV.ext, if_pos] at hxi
      exact ⟨ad, q0, sz, es', v1, g1, h2, fun e => ⟨g2 _ (h3 e).1 hxi, (h3 e).2⟩⟩

theorem Imp_tr {n N : Nat} {l : Fr} {σ : List AObj} : Imp n (dn N l) σ (dn N l) (trObjs l σ n 0 σ) := by
  rintro g0 a w hn ⟨ρ, h1, h2, h3⟩
  refine ⟨ρ, ⟨h1.hid, by rw [trObjs_length]; exact h1.len, h1.inj, fun i sz es ver ho => ?_⟩, ⟨h2.h, h2.os, h2.tape, h2.output, h2.size, h2.block, h2.own, fun i sz es ver ho => ?_⟩, h3.defers, h3.size, fun i p hp => ?_⟩
  · rw [trObjs_get, Option.map_eq_some_iff] at ho
    obtain ⟨⟨sz', es', ver'⟩, ho, he⟩ := ho
    simp only [trObj, AObj.row.injEq, Nat.zero_add] at he
    obtain ⟨rfl, hes, rfl⟩ := he
    have hsub : es <+: es' := by
      rw [← hes]; split
      · exact List.prefix_refl _
      · exact List.take_prefix _ _
    rcases h1.obj i sz' es' ver' ho with ⟨b, cs, e, fr, k1, k2, k3, k4, k5, k6⟩ | ⟨k1, k2⟩
    · refine .inl ⟨b, cs, e, fr, k1, k2, k3, fun x hx => k4 x (hsub.subset hx), ?_, fun j p hp => ?_⟩
      · exact Nat.le_trans (Nat.mul_le_mul_right _ hsub.length_le) k5
      · have hp' : (es'.flatMap PV.cells)[j]? = some p := by
          obtain ⟨t, rfl⟩ := hsub
          rw [List.flatMap_append, List.getElem?_append_left (List.getElem?_eq_some_iff.1 hp).1]; exact hp
        obtain ⟨v, q1, m, q2⟩ := k6 j p hp'
        refine ⟨v, q1, m, q2.tr fun id => ?_⟩
        obtain ⟨x, hx, hpx⟩ := List.mem_flatMap.1 (List.mem_of_getElem? hp')
        have a1 := PV.exts_cells (id := id) p hpx
        have a2 := rowsExt_get (id := id) ho x hx
        omega
    · subst k2
      have : es = [] := List.prefix_nil.1 hsub
      subst this; exact .inr ⟨k1, rfl⟩
  · obtain ⟨es', ver', k1, k2, k3⟩ := h2.obj i sz es ver ho
    have hi : i < n := by rw [← hn]; exact (List.getElem?_eq_some_iff.1 ho).1
    refine ⟨es', ver', by rw [trObjs_get]; simp only at k1; rw [k1]; simp [trObj, hi], k2, k3⟩
  · rw [dn_get] at hp
    split at hp
    · rename_i hi
      injection hp with hp; subst hp
      obtain ⟨v, k1, m, k2⟩ := h3.slot i (look l i) (by rw [dn_get, if_pos hi])
      exact ⟨v, k1, m, k2.tr fun id => by have := @frExt_look id i l; omega⟩
    · cases hp

/-! ### A slice that is nil, as an object without cells -/
theorem R_nil_own {g : G} {id sz ver : Nat} {a : Option Addr} (h : g.σ[id]? = some (.row sz [] ver)) (hr : g.ρ[id]? = some none) : R g (.own id ver 0 0) (.slice a 0 0) :=
  R_own.2 ⟨a, 0, rfl, Nat.le_refl _, sz, [], ver, h, Nat.le_refl _, fun _ => ⟨by simp, by rw [hr]⟩⟩
/-- Surely a slice without cells. -/
def emptyP : PV → Bool
  | .val (.slice none 0 0) => true
  | .list _ [] true => true
  | _ => false
theorem emptyP_R {g : G} {p : PV} {v : Value} (h : emptyP p = true) (hr : R g p v) : ∃ a, v = .slice a 0 0 := by
  unfold emptyP at h
  split at h
  · exact ⟨_, R_val.1 hr⟩
  · obtain ⟨a, cap, h1, _, _, h4, _⟩ := R_list.1 hr
    have := h4 rfl
    simp at this h1; subst this; exact ⟨a, h1⟩
  · cases h
theorem Step_grow {σ σ' : List AObj} {ρ : List (Option Nat)} {w : World} {h : List Nat} (hlen : ρ.length = σ.length) (hl : ∀ (i : Nat) sz es ver, σ[i]? = some (.row sz es ver) → ∃ es', σ'[i]? = some (.row sz es' ver) ∧ es'.length = es.length) :
    Step ⟨σ, ρ, w, h⟩ ⟨σ', ρ ++ [none], w, h⟩ := by
  refine ⟨rfl, rfl, rfl, rfl, Nat.le_refl _, fun _ _ _ => rfl, fun i b hi => .inr ⟨i, ?_⟩, fun i sz es ver ho => ?_⟩
  · simp only [List.getElem?_append] at hi
    split at hi
    · exact hi
    · rename_i hlt
      rcases Nat.lt_or_ge (i - ρ.length) 1 with h1 | h1
      · have : i - ρ.length = 0 := by omega
        rw [this] at hi; simp at hi
      · rw [List.getElem?_eq_none (by simpa using h1)] at hi; cases hi
  · obtain ⟨es', h1, h2⟩ := hl i sz es ver ho
    refine ⟨es', ver, h1, Nat.le_refl _, fun _ => ⟨by omega, ?_, fun _ _ => rfl⟩⟩
    have : i < ρ.length := by rw [hlen]; exact (List.getElem?_eq_some_iff.1 ho).1
    exact List.getElem?_append_left this
theorem Imp_ow {n N : Nat} {l : Fr} {σ : List AObj} {t sz : Nat} (hn : n ≤ σ.length) (ht : emptyP (look l t) = true) : Imp n (dn N l) σ (dn N (put l t (.own σ.length 0 0 0))) (σ ++ [.row sz [] 0]) := by
  rintro g0 a w hn0 ⟨ρ, h1, h2, h3⟩
  have hlen := h1.len
  simp only at hlen
  have hs : Step ⟨σ, ρ, w, g0.h⟩ ⟨σ ++ [.row sz [] 0], ρ ++ [none], w, g0.h⟩ := Step_grow hlen fun i s es ver ho => ⟨es, by rw [List.getElem?_append_left (List.getElem?_eq_some_iff.1 ho).1]; exact ho, rfl⟩
  refine ⟨ρ ++ [none], ⟨h1.hidS hs, by simp [hlen], fun i j b hi hj => ?_, fun i s es ver ho => ?_⟩, h2.trans hs, h3.defers, by rw [h3.size, dn_length, dn_length], fun i p hp => ?_⟩
  · have key : ∀ (i b : Nat), (ρ ++ [none])[i]? = some (some b) → ρ[i]? = some (some b) := by
      intro i b hi
      simp only [List.getElem?_append] at hi
      split at hi
      · exact hi
      · rcases Nat.lt_or_ge (i - ρ.length) 1 with h1 | h1
        · have : i - ρ.length = 0 := by omega
          rw [this] at hi; simp at hi
        · rw [List.getElem?_eq_none (by simpa using h1)] at hi; cases hi
    exact h1.inj i j b (key _ _ hi) (key _ _ hj)
  · simp only at ho
    rcases Nat.lt_or_ge i σ.length with hi | hi
    · rw [List.getElem?_append_left hi] at ho
      rcases h1.obj i s es ver ho with ⟨b, cs, e, fr, k1, k2, k3, k4, k5, k6⟩ | ⟨k1, k2⟩
      · exact .inl ⟨b, cs, e, fr, by simp only; rw [List.getElem?_append_left (by omega)]; exact k1, k2, k3, k4, k5, fun j p hp => let ⟨v, q1, q2⟩ := k6 j p hp; ⟨v, q1, q2.step hs⟩⟩
      · exact .inr ⟨by simp only; rw [List.getElem?_append_left (by omega)]; exact k1, k2⟩
    · rw [List.getElem?_append_right hi] at ho
      rcases Nat.lt_or_ge (i - σ.length) 1 with h0 | h0
      · have e0 : i - σ.length = 0 := by omega
        rw [e0] at ho; simp at ho
        obtain ⟨rfl, rfl, rfl⟩ := ho
        refine .inr ⟨?_, rfl⟩
        simp only
        rw [List.getElem?_append_right (by omega)]
        have : i - ρ.length = 0 := by omega
        rw [this]; rfl
      · rw [List.getElem?_eq_none (by simpa using h0)] at ho; cases ho
  · rw [dn_get] at hp
    split at hp
    · rename_i hi
      injection hp with hp; subst hp
      obtain ⟨v, k1, k2⟩ := h3.slot i (look l i) (by rw [dn_get, if_pos hi])
      refine ⟨v, k1, ?_⟩
      rw [look_put]
      split
      · rename_i e
        subst e
        obtain ⟨a, rfl⟩ := emptyP_R ht k2
        exact R_nil_own (sz := sz) (by simp) (by simp only; rw [List.getElem?_append_right (by omega)]; simp [hlen])
      · exact k2.step hs
    · cases hp
theorem Imp_owc {n N : Nat} {l : Fr} {σ : List AObj} {id ver i j sz s : Nat} {es ps : List PV} (ho : σ[id]? = some (.row s es ver)) (he : es[i]? = some (.agg ps)) {p0 : PV} (hp : ps[j]? = some p0) (he0 : emptyP p0 = true) :
    Imp n (dn N l) σ (dn N l) (σ.set id (.row s (es.set i (.agg (ps.set j (.own σ.length 0 0 0)))) ver) ++ [.row sz [] 0]) := by
  rintro g0 a w hn0 ⟨ρ, h1, h2, h3⟩
  have hlen := h1.len
  simp only at hlen
  have hid : id < σ.length := (List.getElem?_eq_some_iff.1 ho).1
  have hs : Step ⟨σ, ρ, w, g0.h⟩ ⟨σ.set id (.row s (es.set i (.agg (ps.set j (.own σ.length 0 0 0)))) ver) ++ [.row sz [] 0], ρ ++ [none], w, g0.h⟩ := Step_grow hlen fun k s' es' ver' hk => by
    have hk' : k < σ.length := (List.getElem?_eq_some_iff.1 hk).1
    rw [List.getElem?_append_left (by simpa using hk')]
    by_cases e : id = k
    · subst e
      rw [ho] at hk; injection hk with hk; injection hk with e1 e2 e3; subst e1; subst e2; subst e3
      exact ⟨es.set i (.agg (ps.set j (.own σ.length 0 0 0))), List.getElem?_set_self hid, by simp⟩
    · exact ⟨es', by rw [List.getElem?_set_ne e]; exact hk, rfl⟩
  refine ⟨ρ ++ [none], ⟨h1.hidS hs, by simp [hlen], fun i j b hi hj => ?_, fun k s' es' ver' hk => ?_⟩, h2.trans hs, h3.defers, h3.size, fun i p hp => ?_⟩
  · have key : ∀ (i b : Nat), (ρ ++ [none])[i]? = some (some b) → ρ[i]? = some (some b) := by
      intro i b hi
      simp only [List.getElem?_append] at hi
      split at hi
      · exact hi
      · rcases Nat.lt_or_ge (i - ρ.length) 1 with h1 | h1
        · have : i - ρ.length = 0 := by omega
          rw [this] at hi; simp at hi
        · rw [List.getElem?_eq_none (by simpa using h1)] at hi; cases hi
    exact h1.inj i j b (key _ _ hi) (key _ _ hj)
  · simp only at hk
    rcases Nat.lt_or_ge k σ.length with hi | hi
    · rw [List.getElem?_append_left (by simpa using hi)] at hk
      by_cases e : id = k
      · subst e
        rw [List.getElem?_set_self hid] at hk
        injection hk with hk; injection hk with e1 e2 e3; subst e1; subst e2; subst e3
        rcases h1.obj id s es ver ho with ⟨b, cs, e, fr, k1, k2, k3, k4, k5, k6⟩ | ⟨k1, k2⟩
        · have hmem : PV.agg ps ∈ es := List.mem_of_getElem? he
          have hcell : ∀ x ∈ es.set i (.agg (ps.set j (.own σ.length 0 0 0))), x.cells.length = s := by
            intro x hx
            rcases List.mem_or_eq_of_mem_set hx with hx | rfl
            · exact k4 x hx
            · have := k4 _ hmem; simpa [PV.cells] using this
          refine .inl ⟨b, cs, e, fr, by simp only; rw [List.getElem?_append_left (by omega)]; exact k1, k2, k3, hcell, by simpa using k5, fun q p hq => ?_⟩
          have hspos : 0 < s := by
            have := k4 _ hmem
            simp only [PV.cells] at this
            have := (List.getElem?_eq_some_iff.1 hp).1
            omega
          rw [flat_at hspos hcell] at hq
          cases hx : (es.set i (.agg (ps.set j (.own σ.length 0 0 0))))[q / s]? with
          | none => rw [hx] at hq; simp at hq
          | some x =>
            rw [hx] at hq; simp only [Option.bind_some] at hq
            by_cases e1 : i = q / s
            · have hil : i < es.length := (List.getElem?_eq_some_iff.1 he).1
              rw [← e1, List.getElem?_set_self hil] at hx
              · injection hx with hx; subst hx
                simp only [PV.cells] at hq
                have hold : ∀ r, ps[q % s]? = some r → ∃ v, cs[q]? = some v ∧ R ⟨σ, ρ, w, g0.h⟩ r v := by
                  intro r hr
                  refine k6 q r ?_
                  rw [flat_at hspos k4, ← e1, he]; simpa [PV.cells] using hr
                by_cases e2 : j = q % s
                · rw [← e2, List.getElem?_set_self (List.getElem?_eq_some_iff.1 hp).1] at hq
                  · injection hq with hq; subst hq
                    obtain ⟨v, q1, q2⟩ := hold _ (by rw [← e2]; exact hp)
                    obtain ⟨a, rfl⟩ := emptyP_R he0 q2
                    exact ⟨_, q1, R_nil_own (sz := sz) (by simp) (by simp only; rw [List.getElem?_append_right (by omega)]; simp [hlen])⟩
                · rw [List.getElem?_set_ne e2] at hq
                  obtain ⟨v, q1, q2⟩ := hold _ hq
                  exact ⟨v, q1, q2.step hs⟩
            · rw [List.getElem?_set_ne e1] at hx
              obtain ⟨v, q1, q2⟩ := k6 q p (by rw [flat_at hspos k4, hx]; simpa using hq)
              exact ⟨v, q1, q2.step hs⟩
        · subst k2; simp at he
      · rw [List.getElem?_set_ne e] at hk
        rcases h1.obj k s' es' ver' hk with ⟨b, cs, e, fr, k1, k2, k3, k4, k5, k6⟩ | ⟨k1, k2⟩
        · exact .inl ⟨b, cs, e, fr, by simp only; rw [List.getElem?_append_left (by omega)]; exact k1, k2, k3, k4, k5, fun j p hp => let ⟨v, q1, q2⟩ := k6 j p hp; ⟨v, q1, q2.step hs⟩⟩
        · exact .inr ⟨by simp only; rw [List.getElem?_append_left (by omega)]; exact k1, k2⟩
    · rw [List.getElem?_append_right (by simpa using hi)] at hk
      simp only [List.length_set] at hk
      rcases Nat.lt_or_ge (k - σ.length) 1 with h0 | h0
      · have e0 : k - σ.length = 0 := by omega
        rw [e0] at hk; simp at hk
        obtain ⟨rfl, rfl, rfl⟩ := hk
        refine .inr ⟨?_, rfl⟩
        simp only
        rw [List.getElem?_append_right (by omega)]
        have : k - ρ.length = 0 := by omega
        rw [this]; rfl
      · rw [List.getElem?_eq_none (by simpa using h0)] at hk; cases hk
  · obtain ⟨v, k1, k2⟩ := h3.slot i p hp
    exact ⟨v, k1, k2.step hs⟩

/-- A ghost. n: how many objects there were at the function's beginning. -/
def evG (n : Nat) (l : Fr) (σ : List AObj) : Gh → Option (Fr × List AObj)
  | .kill ts => some (kils l ts, σ)
  | .nv => some (nvFr (trObjs l σ n 0 σ) n l, gc n (nvFr (trObjs l σ n 0 σ) n l) (nvObjs (trObjs l σ n 0 σ) n 0 (trObjs l σ n 0 σ)))
  | .ow t none sz => if emptyP (look l t) = true ∧ n ≤ σ.length then some (put l t (.own σ.length 0 0 0), σ ++ [.row sz [] 0]) else some (l, σ)
  | .ow t (some j) sz => match look l t with
    | .ptr id ver i 0 => match σ[id]? with
      | some (.row s es ver') => match es[i]? with
        | some (.agg ps) => match ps[j]? with
          | some p0 => if ver = ver' ∧ emptyP p0 = true then some (l, σ.set id (.row s (es.set i (.agg (ps.set j (.own σ.length 0 0 0)))) ver') ++ [.row sz [] 0]) else some (l, σ)
          | none => some (l, σ)
        | _ => some (l, σ)
      | none => some (l, σ)
    | _ => some (l, σ)
  | .fz t => match look l t with
    | .own id ver off len => match σ[id]? with
      | some (.row sz es ver') =>
        if ver = ver' ∧ n ≤ id ∧ id + 1 = σ.length ∧ len ≤ 140737488355328 ∧ PV.bels 0 es = true ∧ frBel id t l = true ∧ objsBel id (σ.take id) = true then
          some (put l t (.list sz ((es.drop off).take len) false), σ.take id) else none
      | none => none
    | _ => none

/-- An object's slice, as a list that nobody will write again: behind the object's end. -/
theorem R_froz {g : G} (hs : St g) {id ver off len sz : Nat} {es : List PV} {v : Value} (hr : R g (.own id ver off len) v) (ho : g.σ[id]? = some (.row sz es ver)) (hl : len ≤ 140737488355328) (hb : PV.bels 0 es = true) :
    R (g.cut id) (.list sz ((es.drop off).take len) false) v := by
  obtain ⟨a, cap, h1, h2, sz', es', ver', h3, h4, h5⟩ := R_own.1 hr
  rw [ho] at h3; injection h3 with h3; injection h3 with e1 e2 e3; subst e1; subst e2; subst e3
  obtain ⟨h6, h7⟩ := h5 rfl
  have hlen : ((es.drop off).take len).length = len := by simp; omega
  refine R_list.2 ⟨a, cap, by rw [hlen]; exact h1, ⟨by rw [hlen]; exact h2, fun hn => own_none h7 hn⟩, by rw [hlen]; omega, by simp, fun x hx => ?_, fun h0 => ?_⟩
  · have hx' : x ∈ es := List.mem_of_mem_drop (List.mem_of_mem_take hx)
    refine ⟨PV.bels_iff.1 hb x hx', ?_⟩
    rcases hs.obj id sz es ver ho with ⟨b, cs, e, fr, k1, k2, k3, k4, k5, k6⟩ | ⟨k1, k2⟩
    · exact k4 x hx'
    · subst k2; simp at hx'
  · rw [hlen] at h0
    rcases hs.obj id sz es ver ho with ⟨b, cs, e, fr, k1, k2, k3, k4, k5, k6⟩ | ⟨k1, k2⟩
    · rw [k1] at h7
      obtain ⟨h8, s, h9, h10⟩ := h7
      refine ⟨⟨b, off * sz, none⟩, h8 (by omega), rfl, ⟨?_, fun i hi => ?_, hs.hid.2 id b k1⟩, fun j p hp => ?_⟩
      · exact hs.block_lt k1
      · simp only [G.cut, List.getElem?_take] at hi
        split at hi
        · have := hs.inj i id b hi k1; omega
        · cases hi
      · rw [flat_take_drop k4 off len h6, List.getElem?_take] at hp
        split at hp
        · rw [List.getElem?_drop] at hp
          obtain ⟨u, q1, q2⟩ := k6 (off * sz + j) p hp
          refine ⟨u, ?_, q2.cut ?_⟩
          · show g.w.cell? _ = _
            rw [addr_add_mk]
            simp [World.cell?, k2, q1]
          · obtain ⟨x, hx, hp'⟩ := List.mem_flatMap.1 (List.mem_of_getElem? hp)
            exact PV.bel_le (Nat.zero_le _) (bels_cells (PV.bels_iff.1 hb x hx) p hp')
        · cases hp
    · subst k2; simp at hlen; omega

theorem evG_sound {n N : Nat} {l l' : Fr} {σ σ' : List AObj} {gh : Gh} (h : evG n l σ gh = some (l', σ')) : Imp n (dn N l) σ (dn N l') σ' := by
  cases gh with
  | kill ts =>
    simp only [evG, Option.some.injEq, Prod.mk.injEq] at h
    obtain ⟨rfl, rfl⟩ := h
    exact Imp_weak fun u => look_kils u ts l
  | nv =>
    simp only [evG, Option.some.injEq, Prod.mk.injEq] at h
    obtain ⟨rfl, rfl⟩ := h
    exact Imp_tr.trans (Imp_nv.trans Imp_gc)
  | ow t j sz =>
    cases j with
    | none =>
      simp only [evG] at h
      split at h
      · rename_i ht
        simp only [Option.some.injEq, Prod.mk.injEq] at h
        obtain ⟨rfl, rfl⟩ := h
        exact Imp_ow ht.2 ht.1
      · simp only [Option.some.injEq, Prod.mk.injEq] at h
        obtain ⟨rfl, rfl⟩ := h
        exact Imp.refl _ _ _
    | some j =>
      have same : (l, σ) = (l', σ') → Imp n (dn N l) σ (dn N l') σ' := by
        intro h
        simp only [Prod.mk.injEq] at h
        obtain ⟨rfl, rfl⟩ := h
        exact Imp.refl _ _ _
      simp only [evG] at h
      split at h
      · split at h
        · rename_i ho
          split at h
          · rename_i he
            split at h
            · rename_i hp
              split at h
              · rename_i hc
                simp only [Option.some.injEq, Prod.mk.injEq] at h
                obtain ⟨rfl, rfl⟩ := h
                exact Imp_owc ho he hp hc.2
              · exact same (by simpa using h)
            · exact same (by simpa using h)
          · exact same (by simpa using h)
        · exact same (by simpa using h)
      · exact same (by simpa using h)
  | fz t =>
    simp only [evG] at h
    split at h
    · rename_i id ver off len hlk
      split at h
      · rename_i sz es ver' ho
        split at h
        · rename_i hc
          obtain ⟨rfl, c1, c2, c3, c4, c5, c6⟩ := hc
          injection h with h; injection h with e1 e2; subst e1; subst e2
          rintro g0 a w hn ⟨ρ, h1, h2, h3⟩
          have hcut : (G.mk σ ρ w g0.h).cut id = ⟨σ.take id, ρ.take id, w, g0.h⟩ := rfl
          refine ⟨ρ.take id, hcut ▸ h1.cut c6, hcut ▸ h2.cut (by omega), h3.defers, by rw [h3.size, dn_length, dn_length], fun i p hp => ?_⟩
          rw [dn_get] at hp
          split at hp
          · rename_i hi
            injection hp with hp; subst hp
            obtain ⟨v, k1, k2⟩ := h3.slot i (look l i) (by rw [dn_get, if_pos hi])
            refine ⟨v, k1, ?_⟩
            rw [look_put]
            split
            · subst_vars; rw [hlk] at k2; exact R_froz h1 k2 ho c3 c4
            · rename_i hne; exact k2.cut (frBel_look c5 hne)
          · cases hp
        · cases h
      · cases h
    · cases h

end Aw
end Go.Proofs.Ytegjfjckijmgcaa
