/- Frames by their living slots; what a ghost does. -/
import Derived.Test.YtpjadhjjeafffaaAw18
set_option linter.unusedVariables false
set_option linter.unusedSimpArgs false
namespace Go.Proofs.Ytpjadhjjeafffaa
namespace Aw

abbrev Fr := List (Nat × PV)
def look : Fr → Nat → PV
  | [], _ => .any
  | (k, v) :: l, t => if k = t then v else look l t
def put : Fr → Nat → PV → Fr
  | [], t, p => [(t, p)]
  | (k, v) :: l, t, p => if t < k then (t, p) :: (k, v) :: l else if t = k then (t, p) :: l else (k, v) :: put l t p
def kil : Fr → Nat → Fr
  | [], _ => []
  | (k, v) :: l, t => if k = t then kil l t else (k, v) :: kil l t
def kils : Fr → List Nat → Fr
  | l, [] => l
  | l, t :: ts => kils (kil l t) ts
def putD (l : Fr) (d : Option Nat) (p : PV) : Fr := match d with | some d => put l d p | none => l
def kilD (l : Fr) (d : Option Nat) : Fr := match d with | some d => kil l d | none => l
/-- All slots. -/
def dn (N : Nat) (l : Fr) : List PV := (List.range N).map (look l)

theorem look_put (t : Nat) (p : PV) (u : Nat) : ∀ l : Fr, look (put l t p) u = if u = t then p else look l u
  | [] => by simp only [put, look]; split <;> split <;> simp_all
  | (k, v) :: l => by
    simp only [put]
    by_cases h1 : t < k
    · rw [if_pos h1]
      by_cases h2 : u = t
      · subst h2; simp [look]
      · have : ¬ t = u := fun e => h2 e.symm
        rw [if_neg h2]; simp only [look, if_neg this]
    · rw [if_neg h1]
      by_cases h3 : t = k
      · rw [if_pos h3]; subst h3
        by_cases h2 : u = t
        · subst h2; simp [look]
        · have : ¬ t = u := fun e => h2 e.symm
          rw [if_neg h2]; simp only [look, if_neg this]
      · rw [if_neg h3]; simp only [look, look_put t p u l]
        by_cases h2 : k = u
        · have : ¬ u = t := by omega
          rw [if_pos h2, if_neg this, if_pos h2]
        · rw [if_neg h2, if_neg h2]
theorem look_kil (t u : Nat) : ∀ l : Fr, look (kil l t) u = if u = t then .any else look l u
  | [] => by simp [kil, look]
  | (k, v) :: l => by
    simp only [kil]
    by_cases h1 : k = t
    · rw [if_pos h1, look_kil t u l]; subst h1
      by_cases h2 : u = k
      · rw [if_pos h2, if_pos h2]
      · have : ¬ k = u := fun e => h2 e.symm
        rw [if_neg h2, if_neg h2]; simp only [look, if_neg this]
    · rw [if_neg h1]; simp only [look, look_kil t u l]
      by_cases h2 : k = u
      · have : ¬ u = t := by omega
        rw [if_pos h2, if_neg this, if_pos h2]
      · rw [if_neg h2, if_neg h2]
theorem look_kils (u : Nat) : ∀ (ts : List Nat) (l : Fr), look (kils l ts) u = look l u ∨ look (kils l ts) u = .any
  | [], l => .inl rfl
  | t :: ts, l => by
    rcases look_kils u ts (kil l t) with h | h
    · simp only [kils, h, look_kil]
      split
      · exact .inr rfl
      · exact .inl rfl
    · exact .inr h
theorem dn_length (N : Nat) (l : Fr) : (dn N l).length = N := by simp [dn]
theorem dn_get (N : Nat) (l : Fr) (t : Nat) : (dn N l)[t]? = if t < N then some (look l t) else none := by
  simp only [dn, List.getElem?_map]
  rcases Nat.lt_or_ge t N with h | h
  · simp [h]
  · simp [h, Nat.not_lt.2 h]
theorem setD_dn (N : Nat) (l : Fr) (d : Option Nat) (p : PV) : setD (dn N l) d p = dn N (putD l d p) := by
  cases d with
  | none => rfl
  | some d =>
    apply List.ext_getElem?
    intro i
    simp only [setD, putD, List.getElem?_set, dn_get, look_put, dn_length]
    split
    · subst_vars; split <;> simp_all
    · rename_i h
      have : ¬ i = d := fun e => h e.symm
      simp [this]
theorem setD_dn_any (N : Nat) (l : Fr) (d : Option Nat) : setD (dn N l) d .any = dn N (kilD l d) := by
  cases d with
  | none => rfl
  | some d =>
    apply List.ext_getElem?
    intro i
    simp only [setD, kilD, List.getElem?_set, dn_get, look_kil, dn_length]
    split
    · subst_vars; split <;> simp_all
    · rename_i h
      have : ¬ i = d := fun e => h e.symm
      simp [this]
theorem aev_dn {N : Nat} {l : Fr} {t : Nat} (h : t < N) : aev (dn N l) (.tmp t) = look l t := by
  simp [aev, dn_get, h]
/-- The first slots: the arguments. -/
def frA : Nat → List PV → Fr
  | _, [] => []
  | k, p :: ps => (k, p) :: frA (k + 1) ps
theorem dn_init (N : Nat) (args : List PV) (h : args.length ≤ N) : args ++ List.replicate (N - args.length) .any = dn N (frA 0 args) := by
  have key : ∀ (args : List PV) (k i : Nat), look (frA k args) i = if k ≤ i then (args[i - k]?).getD .any else .any := by
    intro args
    induction args with
    | nil => intro k i; simp [look, frA]
    | cons p ps ih =>
      intro k i
      simp only [frA, look, ih]
      by_cases h0 : k = i
      · subst h0; simp
      · rw [if_neg h0]
        by_cases h1 : k + 1 ≤ i
        · rw [if_pos h1, if_pos (by omega)]
          have : i - k = (i - (k + 1)) + 1 := by omega
          rw [this]; simp
        · rw [if_neg h1, if_neg (by omega)]
  apply List.ext_getElem?
  intro i
  rw [dn_get, key]
  simp only [Nat.zero_le, if_true, Nat.sub_zero]
  rcases Nat.lt_or_ge i args.length with h1 | h1
  · rw [List.getElem?_append_left h1, if_pos (by omega)]
    simp [h1]
  · rw [List.getElem?_append_right h1]
    simp only [List.getElem?_replicate]
    have : args[i]? = none := List.getElem?_eq_none h1
    rw [this]
    rcases Nat.lt_or_ge i N with h2 | h2
    · rw [if_pos (by omega), if_pos h2]; rfl
    · rw [if_neg (by omega), if_neg (by omega)]

theorem Imp_weak {n N : Nat} {l l' : Fr} {σ : List AObj} (h : ∀ u, look l' u = look l u ∨ look l' u = .any) : Imp n (dn N l) σ (dn N l') σ := by
  rintro g0 a w hn ⟨ρ, h1, h2, h3⟩
  refine ⟨ρ, h1, h2, h3.defers, by rw [h3.size, dn_length, dn_length], fun i p hp => ?_⟩
  rw [dn_get] at hp
  split at hp
  · rename_i hi
    injection hp with hp; subst hp
    obtain ⟨v, k1, k2⟩ := h3.slot i (look l i) (by rw [dn_get, if_pos hi])
    rcases h i with e | e
    · exact ⟨v, k1, by rw [e]; exact k2⟩
    · exact ⟨v, k1, by rw [e]; exact R_any _ _⟩
  · cases hp

def frBel (n t : Nat) : Fr → Bool
  | [] => true
  | (k, v) :: l => (k == t || v.bel n) && frBel n t l
theorem frBel_look {n t u : Nat} : ∀ {l : Fr}, frBel n t l = true → u ≠ t → (look l u).bel n = true
  | [], _, _ => by simp [look, PV.bel]
  | (k, v) :: l, h, hu => by
    simp only [frBel, Bool.and_eq_true, Bool.or_eq_true, beq_iff_eq] at h
    simp only [look]
    split
    · subst_vars; exact h.1.resolve_left (fun e => hu e)
    · exact frBel_look h.2 hu

/-! ### Versions that begin at 0 again -/
mutual
def PV.nv (σ : List AObj) (n : Nat) : PV → PV
  | .agg ps => .agg (PV.nvs σ n ps)
  | .tup ps => .tup (PV.nvs σ n ps)
  | .fn f ps => .fn f (PV.nvs σ n ps)
  | .own id ver off len => if id < n then .own id ver off len else match σ[id]? with
    | some (.row _ _ ver') => if ver = ver' then .own id 0 off len else .any
    | none => .any
  | .ptr id ver i off => if id < n then .ptr id ver i off else match σ[id]? with
    | some (.row _ _ ver') => if ver = ver' then .ptr id 0 i off else .any
    | none => .any
  | .tl _ _ => .any
  | .any => .any
  | .val v => .val v
  | .list a b c => .list a b c
  | .fptr a b => .fptr a b
def PV.nvs (σ : List AObj) (n : Nat) : List PV → List PV
  | [] => []
  | p :: ps => PV.nv σ n p :: PV.nvs σ n ps
end
theorem PV.nvs_map (σ : List AObj) (n : Nat) : ∀ ps : List PV, PV.nvs σ n ps = ps.map (PV.nv σ n)
  | [] => rfl
  | p :: ps => by simp [PV.nvs, PV.nvs_map σ n ps]
theorem PV.nv_cells (σ : List AObj) (n : Nat) (p : PV) : (PV.nv σ n p).cells = p.cells.map (PV.nv σ n) := by
  cases p with
  | agg ps => simp [PV.nv, PV.cells, PV.nvs_map]
  | own a b c d =>
    have : ∀ q : PV, (q = .own a b c d ∨ q = .own a 0 c d ∨ q = .any) → q.cells = [q] := by rintro q (rfl | rfl | rfl) <;> rfl
    show (PV.nv σ n (.own a b c d)).cells = [PV.nv σ n (.own a b c d)]
    refine this _ ?_
    simp only [PV.nv]
    split
    · exact .inl rfl
    · split
      · split
        · exact .inr (.inl rfl)
        · exact .inr (.inr rfl)
      · exact .inr (.inr rfl)
  | ptr a b c d =>
    have : ∀ q : PV, (q = .ptr a b c d ∨ q = .ptr a 0 c d ∨ q = .any) → q.cells = [q] := by rintro q (rfl | rfl | rfl) <;> rfl
    show (PV.nv σ n (.ptr a b c d)).cells = [PV.nv σ n (.ptr a b c d)]
    refine this _ ?_
    simp only [PV.nv]
    split
    · exact .inl rfl
    · split
      · split
        · exact .inr (.inl rfl)
        · exact .inr (.inr rfl)
      · exact .inr (.inr rfl)
  | _ => simp [PV.nv, PV.cells]
/-- The elements of a row: where they refer to nothing they stay as they are. -/
def nvRow (σ : List AObj) (n : Nat) (es : List PV) : List PV := if PV.bels 0 es = true then es else es.map (PV.nv σ n)
def nvObj (σ : List AObj) (n i : Nat) : AObj → AObj
  | .row sz es ver => .row sz (nvRow σ n es) (if i < n then ver else 0)
def nvObjs (σ : List AObj) (n : Nat) : Nat → List AObj → List AObj
  | _, [] => []
  | i, o :: os => nvObj σ n i o :: nvObjs σ n (i + 1) os
def nvFr (σ : List AObj) (n : Nat) : Fr → Fr
  | [] => []
  | (k, v) :: l => (k, PV.nv σ n v) :: nvFr σ n l

theorem nvObjs_length (σ : List AObj) (n : Nat) : ∀ (i : Nat) (os : List AObj), (nvObjs σ n i os).length = os.length
  | _, [] => rfl
  | i, o :: os => by simp [nvObjs, nvObjs_length σ n (i + 1) os]
theorem nvObjs_get (σ : List AObj) (n : Nat) : ∀ (i : Nat) (os : List AObj) (j : Nat), (nvObjs σ n i os)[j]? = (os[j]?).map (nvObj σ n (i + j))
  | _, [], j => by simp [nvObjs]
  | i, o :: os, 0 => by simp [nvObjs]
  | i, o :: os, j + 1 => by
    simp only [nvObjs, List.getElem?_cons_succ]
    rw [nvObjs_get σ n (i + 1) os j]
    have : i + 1 + j = i + (j + 1) := by omega
    rw [this]
theorem look_nvFr (σ : List AObj) (n t : Nat) : ∀ l : Fr, look (nvFr σ n l) t = PV.nv σ n (look l t)
  | [] => by simp [nvFr, look, PV.nv]
  | (k, v) :: l => by
    simp only [nvFr, look]
    split
    · rfl
    · exact look_nvFr σ n t l

/-- What refers to nothing stands in any state with the same cells. -/
theorem VR.same0 {g g' : G} (hf : ∀ b, g.frz b → g'.frz b) (hw : g'.w = g.w) : ∀ {m : Nat} {p : PV} {c : Value}, p.bel 0 = true → VR g m p c → VR g' m p c
  | 0, _, _, _, k => k.elim
  | m + 1, p, c, hb, k => by
    have ih := @VR.same0 g g' hf hw m
    cases p with
    | any => trivial
    | val v => exact k
    | agg ps =>
      simp only [VR, PV.bel] at k hb ⊢
      obtain ⟨cs, h1, h2, h3⟩ := k
      exact ⟨cs, h1, h2, fun j p v hp hv => ih (PV.bels_iff.1 hb p (List.mem_of_getElem? hp)) (h3 j p v hp hv)⟩
    | tup ps =>
      simp only [VR, PV.bel] at k hb ⊢
      obtain ⟨cs, h1, h2, h3⟩ := k
      exact ⟨cs, h1, h2, fun j p v hp hv => ih (PV.bels_iff.1 hb p (List.mem_of_getElem? hp)) (h3 j p v hp hv)⟩
    | fn f ps =>
      simp only [VR, PV.bel] at k hb ⊢
      obtain ⟨cs, h1, h2, h3⟩ := k
      exact ⟨cs, h1, h2, fun j p v hp hv => ih (PV.bels_iff.1 hb p (List.mem_of_getElem? hp)) (h3 j p v hp hv)⟩
    | list sz xs ex =>
      simp only [VR] at k ⊢
      obtain ⟨a, cap, h1, h2, h3, h4, h5, h6⟩ := k
      refine ⟨a, cap, h1, h2, h3, h4, h5, fun h0 => ?_⟩
      obtain ⟨ad, e1, e2, e3, e4⟩ := h6 h0
      refine ⟨ad, e1, e2, hf _ e3, fun j p hp => ?_⟩
      obtain ⟨v, q1, q2⟩ := e4 j p hp
      obtain ⟨x, hx, hp'⟩ := List.mem_flatMap.1 (List.mem_of_getElem? hp)
      exact ⟨v, by rw [hw]; exact q1, ih (bels_cells (h5 x hx).1 p hp') q2⟩
    | tl sz xs =>
      simp only [VR, PV.bel] at k hb ⊢
      obtain ⟨a, cap, h1, h2, h5, h6⟩ := k
      refine ⟨a, cap, h1, h2, h5, fun h0 => ?_⟩
      obtain ⟨ad, e1, e2, e3, e4⟩ := h6 h0
      refine ⟨ad, e1, e2, hf _ e3, fun j p hp => ?_⟩
      obtain ⟨v, q1, q2⟩ := e4 j p hp
      obtain ⟨x, hx, hp'⟩ := List.mem_flatMap.1 (List.mem_of_getElem? hp)
      exact ⟨v, by rw [hw]; exact q1, ih (bels_cells (PV.bels_iff.1 hb x hx) p hp') q2⟩
    | fptr cs off =>
      simp only [VR] at k ⊢
      obtain ⟨ad, e1, e2, e3, e4⟩ := k
      exact ⟨ad, e1, e2, hf _ e3, fun j p hp => let ⟨q0, v, q1, q2⟩ := e4 j p hp; ⟨q0, v, by rw [hw]; exact q1, ih q0 q2⟩⟩
    | own id ver off len => simp [PV.bel] at hb
    | ptr id ver i off => simp [PV.bel] at hb

theorem VR.nv {σ : List AObj} {ρ : List (Option Nat)} {w : World} {h : List Nat} {n : Nat} : ∀ {m : Nat} {p : PV} {c : Value}, VR ⟨σ, ρ, w, h⟩ m p c → VR ⟨nvObjs σ n 0 σ, ρ, w, h⟩ m (PV.nv σ n p) c
  | 0, _, _, k => k.elim
  | m + 1, p, c, k => by
    have ih := @VR.nv σ ρ w h n m
    have many : ∀ {ps : List PV} {cs : List Value}, (∀ (j : Nat) p v, ps[j]? = some p → cs[j]? = some v → VR ⟨σ, ρ, w, h⟩ m p v) → ∀ (j : Nat) p v, (PV.nvs σ n ps)[j]? = some p → cs[j]? = some v → VR ⟨nvObjs σ n 0 σ, ρ, w, h⟩ m p v := by
      intro ps cs h3 j p v hp hv
      rw [PV.nvs_map, List.getElem?_map, Option.map_eq_some_iff] at hp
      obtain ⟨q, hq, rfl⟩ := hp
      exact ih (h3 j q v hq hv)
    have keep : ∀ {p : PV}, p.bel 0 = true → VR ⟨σ, ρ, w, h⟩ (m + 1) p c → VR ⟨nvObjs σ n 0 σ, ρ, w, h⟩ (m + 1) p c := fun hb k => VR.same0 (g := ⟨σ, ρ, w, h⟩) (g' := ⟨nvObjs σ n 0 σ, ρ, w, h⟩) (fun b hb => hb) rfl hb k
    have get : ∀ {i sz : Nat} {es : List PV} {ver : Nat}, σ[i]? = some (.row sz es ver) → (nvObjs σ n 0 σ)[i]? = some (.row sz (nvRow σ n es) (if i < n then ver else 0)) ∧ (nvRow σ n es).length = es.length := by
      intro i sz es ver ho
      refine ⟨by rw [nvObjs_get, ho]; simp [nvObj], ?_⟩
      unfold nvRow; split <;> simp
    cases p with
    | any => trivial
    | val v => exact k
    | tl a b => simp only [PV.nv]; trivial
    | list a b c => exact keep rfl k
    | fptr a b => exact keep rfl k
    | agg ps =>
      simp only [VR, PV.nv] at k ⊢
      obtain ⟨cs, h1, h2, h3⟩ := k
      exact ⟨cs, h1, by rw [PV.nvs_map]; simpa using h2, many h3⟩
    | tup ps =>
      simp only [VR, PV.nv] at k ⊢
      obtain ⟨cs, h1, h2, h3⟩ := k
      exact ⟨cs, h1, by rw [PV.nvs_map]; simpa using h2, many h3⟩
    | fn f ps =>
      simp only [VR, PV.nv] at k ⊢
      obtain ⟨cs, h1, h2, h3⟩ := k
      exact ⟨cs, h1, by rw [PV.nvs_map]; simpa using h2, many h3⟩
    | own id ver off len =>
      simp only [VR] at k
      obtain ⟨a, cap, q1, q2, sz, es, v1, h1, h2, h3⟩ := k
      obtain ⟨g1, g2⟩ := get h1
      simp only [PV.nv]
      split
      · rename_i hid
        rw [if_pos hid] at g1
        simp only [VR]
        exact ⟨a, cap, q1, q2, sz, _, v1, g1, h2, fun e => by rw [g2]; exact h3 e⟩
      · rename_i hid
        rw [if_neg hid] at g1
        rw [h1]
        simp only
        split
        · rename_i e
          simp only [VR]
          exact ⟨a, cap, q1, q2, sz, _, 0, g1, Nat.le_refl _, fun _ => by rw [g2]; exact h3 e⟩
        · trivial
    | ptr id ver i off =>
      simp only [VR] at k
      obtain ⟨ad, q0, sz, es, v1, h1, h2, h3⟩ := k
      obtain ⟨g1, g2⟩ := get h1
      simp only [PV.nv]
      split
      · rename_i hid
        rw [if_pos hid] at g1
        simp only [VR]
        exact ⟨ad, q0, sz, _, v1, g1, h2, fun e => by rw [g2]; exact h3 e⟩
      · rename_i hid
        rw [if_neg hid] at g1
        rw [h1]
        simp only
        split
        · rename_i e
          simp only [VR]
          exact ⟨ad, q0, sz, _, 0, g1, Nat.le_refl _, fun _ => by rw [g2]; exact h3 e⟩
        · trivial

theorem nvRow_cells {σ : List AObj} {n : Nat} {es : List PV} {j : Nat} {p : PV} (hp : ((nvRow σ n es).flatMap PV.cells)[j]? = some p) : ∃ q, (es.flatMap PV.cells)[j]? = some q ∧ ((p = q ∧ q.bel 0 = true) ∨ p = PV.nv σ n q) := by
  unfold nvRow at hp
  split at hp
  · rename_i hb
    refine ⟨p, hp, .inl ⟨rfl, ?_⟩⟩
    obtain ⟨x, hx, hp'⟩ := List.mem_flatMap.1 (List.mem_of_getElem? hp)
    exact bels_cells (PV.bels_iff.1 hb x hx) p hp'
  · have e : (es.map (PV.nv σ n)).flatMap PV.cells = (es.flatMap PV.cells).map (PV.nv σ n) := by
      rw [List.flatMap_map, List.map_flatMap]
      congr 1; funext x; exact PV.nv_cells σ n x
    rw [e, List.getElem?_map, Option.map_eq_some_iff] at hp
    obtain ⟨q, hq, rfl⟩ := hp
    exact ⟨q, hq, .inr rfl⟩

theorem Imp_nv {n N : Nat} {l : Fr} {σ : List AObj} : Imp n (dn N l) σ (dn N (nvFr σ n l)) (nvObjs σ n 0 σ) := by
  rintro g0 a w hn ⟨ρ, h1, h2, h3⟩
  refine ⟨ρ, ⟨h1.hid, by rw [nvObjs_length]; exact h1.len, h1.inj, fun i sz es ver ho => ?_⟩, ⟨h2.h, h2.os, h2.tape, h2.output, h2.size, h2.block, h2.own, fun i sz es ver ho => ?_⟩, h3.defers, by rw [h3.size, dn_length, dn_length], fun i p hp => ?_⟩
  · rw [nvObjs_get, Option.map_eq_some_iff] at ho
    obtain ⟨⟨sz', es', ver'⟩, ho, he⟩ := ho
    simp only [nvObj, AObj.row.injEq] at he
    obtain ⟨rfl, rfl, _⟩ := he
    rcases h1.obj i sz' es' ver' ho with ⟨b, cs, e, fr, k1, k2, k3, k4, k5, k6⟩ | ⟨k1, k2⟩
    · refine .inl ⟨b, cs, e, fr, k1, k2, k3, fun x hx => ?_, ?_, fun j p hp => ?_⟩
      · unfold nvRow at hx
        split at hx
        · exact k4 x hx
        · obtain ⟨y, hy, rfl⟩ := List.mem_map.1 hx
          rw [PV.nv_cells, List.length_map]; exact k4 y hy
      · have : (nvRow σ n es').length = es'.length := by unfold nvRow; split <;> simp
        rw [this]; exact k5
      · obtain ⟨q, hq, hpq⟩ := nvRow_cells hp
        obtain ⟨v, q1, m, q2⟩ := k6 j q hq
        rcases hpq with ⟨rfl, hb⟩ | rfl
        · exact ⟨v, q1, m, VR.same0 (g := ⟨σ, ρ, w, g0.h⟩) (g' := ⟨nvObjs σ n 0 σ, ρ, w, g0.h⟩) (fun b hb => hb) rfl hb q2⟩
        · exact ⟨v, q1, m, q2.nv⟩
    · subst k2; exact .inr ⟨k1, by simp [nvRow, PV.bels]⟩
  · obtain ⟨es', ver', k1, k2, k3⟩ := h2.obj i sz es ver ho
    have hi : i < n := by rw [← hn]; exact (List.getElem?_eq_some_iff.1 ho).1
    refine ⟨nvRow σ n es', ver', by rw [nvObjs_get]; simp only at k1; rw [k1]; simp [nvObj, hi], k2, fun e => ?_⟩
    have : (nvRow σ n es').length = es'.length := by unfold nvRow; split <;> simp
    rw [this]; exact k3 e
  · rw [dn_get] at hp
    split at hp
    · rename_i hi
      injection hp with hp; subst hp
      obtain ⟨v, k1, m, k2⟩ := h3.slot i (look l i) (by rw [dn_get, if_pos hi])
      exact ⟨v, k1, m, by rw [look_nvFr]; exact k2.nv⟩
    · cases hp

/-! ### Objects at the end to which nothing refers go away -/
def frBelA (n : Nat) : Fr → Bool
  | [] => true
  | (_, v) :: l => v.bel n && frBelA n l
theorem frBelA_look {n u : Nat} : ∀ {l : Fr}, frBelA n l = true → (look l u).bel n = true
  | [], _ => by simp [look, PV.bel]
  | (k, v) :: l, h => by
    simp only [frBelA, Bool.and_eq_true] at h
    simp only [look]
    split
    · exact h.1
    · exact frBelA_look h.2
def gcOk (l : Fr) (σ : List AObj) (k : Nat) : Bool := frBelA k l && objsBel k (σ.take k)
def gcAt (l : Fr) (σ : List AObj) : Nat → Nat → Nat
  | 0, k => k
  | m + 1, k => if gcOk l σ k = true then k else gcAt l σ m (k + 1)
theorem gcAt_spec {l : Fr} {σ : List AObj} : ∀ (m k : Nat), k ≤ gcAt l σ m k ∧ (gcAt l σ m k < k + m → gcOk l σ (gcAt l σ m k) = true)
  | 0, k => ⟨Nat.le_refl _, fun h => by simp only [gcAt] at h; omega⟩
  | m + 1, k => by
    simp only [gcAt]
    split
    · rename_i h; exact ⟨Nat.le_refl _, fun _ => h⟩
    · obtain ⟨h1, h2⟩ := @gcAt_spec l σ m (k + 1)
      exact ⟨by omega, fun h => h2 (by omega)⟩
def gc (n : Nat) (l : Fr) (σ : List AObj) : List AObj := σ.take (gcAt l σ (σ.length - n) n)
theorem Imp_gc {n N : Nat} {l : Fr} {σ : List AObj} : Imp n (dn N l) σ (dn N l) (gc n l σ) := by
  unfold gc
  obtain ⟨h1, h2⟩ := @gcAt_spec l σ (σ.length - n) n
  generalize gcAt l σ (σ.length - n) n = k at h1 h2 ⊢
  by_cases hk : k < σ.length
  · have hok := h2 (by omega)
    simp only [gcOk, Bool.and_eq_true] at hok
    rintro g0 a w hn ⟨ρ, k1, k2, k3⟩
    have hcut : (G.mk σ ρ w g0.h).cut k = ⟨σ.take k, ρ.take k, w, g0.h⟩ := rfl
    refine ⟨ρ.take k, hcut ▸ k1.cut hok.2, hcut ▸ k2.cut (by omega), k3.defers, k3.size, fun i p hp => ?_⟩
    rw [dn_get] at hp
    split at hp
    · rename_i hi
      injection hp with hp; subst hp
      obtain ⟨v, e1, e2⟩ := k3.slot i (look l i) (by rw [dn_get, if_pos hi])
      exact ⟨v, e1, hcut ▸ e2.cut (frBelA_look hok.1)⟩
    · cases hp
  · rw [List.take_of_length_le (by omega)]; exact Imp.refl _ _ _

/-- A ghost. n: how many objects there were at the function's beginning. -/
def evG (n : Nat) (l : Fr) (σ : List AObj) : Gh → Option (Fr × List AObj)
  | .kill ts => some (kils l ts, σ)
  | .nv => some (nvFr σ n l, gc n (nvFr σ n l) (nvObjs σ n 0 σ))
  | .fz t => match look l t with
    | .own id ver off len => match σ[id]? with
      | some (.row sz es ver') =>
        if ver = ver' ∧ n ≤ id ∧ id + 1 = σ.length ∧ len ≤ 140737488355328 ∧ PV.bels 0 es = true ∧ frBel id t l = true ∧ objsBel id (σ.take id) = true then
          some (put l t (.list sz ((es.drop off).take len) false), σ.take id) else none
      | none => none
    | _ => none

/-- An object's slice, as a list that nobody will write again: behind the object's end. -/
theorem R_froz {g : G} (hs : St g) {id ver off len sz : Nat} {es : List PV} {v : Value} (hr : R g (.own id ver off len) v) (ho : g.σ[id]? = some (.row sz es ver)) (hl : len ≤ 140737488355328) (hb : PV.bels 0 es = true) :
    R (g.cut id) (.list sz ((es.drop off).take len) false) v := by
  obtain ⟨a, cap, h1, h2, sz', es', ver', h3, h4, h5⟩ := R_own.1 hr
  rw [ho] at h3; injection h3 with h3; injection h3 with e1 e2 e3; subst e1; subst e2; subst e3
  obtain ⟨h6, h7⟩ := h5 rfl
  have hlen : ((es.drop off).take len).length = len := by simp; omega
  refine R_list.2 ⟨a, cap, by rw [hlen]; exact h1, by rw [hlen]; exact h2, by rw [hlen]; omega, by simp, fun x hx => ?_, fun h0 => ?_⟩
  · have hx' : x ∈ es := List.mem_of_mem_drop (List.mem_of_mem_take hx)
    refine ⟨PV.bels_iff.1 hb x hx', ?_⟩
    rcases hs.obj id sz es ver ho with ⟨b, cs, e, fr, k1, k2, k3, k4, k5, k6⟩ | ⟨k1, k2⟩
    · exact k4 x hx'
    · subst k2; simp at hx'
  · rw [hlen] at h0
    rcases hs.obj id sz es ver ho with ⟨b, cs, e, fr, k1, k2, k3, k4, k5, k6⟩ | ⟨k1, k2⟩
    · rw [k1] at h7
      obtain ⟨h8, s, h9, h10⟩ := h7
      refine ⟨⟨b, off * sz, none⟩, h8 (by omega), rfl, ⟨?_, fun i hi => ?_, hs.hid.2 id b k1⟩, fun j p hp => ?_⟩
      · exact hs.block_lt k1
      · simp only [G.cut, List.getElem?_take] at hi
        split at hi
        · have := hs.inj i id b hi k1; omega
        · cases hi
      · rw [flat_take_drop k4 off len h6, List.getElem?_take] at hp
        split at hp
        · rw [List.getElem?_drop] at hp
          obtain ⟨u, q1, q2⟩ := k6 (off * sz + j) p hp
          refine ⟨u, ?_, q2.cut ?_⟩
          · show g.w.cell? _ = _
            rw [addr_add_mk]
            simp [World.cell?, k2, q1]
          · obtain ⟨x, hx, hp'⟩ := List.mem_flatMap.1 (List.mem_of_getElem? hp)
            exact PV.bel_le (Nat.zero_le _) (bels_cells (PV.bels_iff.1 hb x hx) p hp')
        · cases hp
    · subst k2; simp at hlen; omega

theorem evG_sound {n N : Nat} {l l' : Fr} {σ σ' : List AObj} {gh : Gh} (h : evG n l σ gh = some (l', σ')) : Imp n (dn N l) σ (dn N l') σ' := by
  cases gh with
  | kill ts =>
    simp only [evG, Option.some.injEq, Prod.mk.injEq] at h
    obtain ⟨rfl, rfl⟩ := h
    exact Imp_weak fun u => look_kils u ts l
  | nv =>
    simp only [evG, Option.some.injEq, Prod.mk.injEq] at h
    obtain ⟨rfl, rfl⟩ := h
    exact Imp_nv.trans Imp_gc
  | fz t =>
    simp only [evG] at h
    split at h
    · rename_i id ver off len hlk
      split at h
      · rename_i sz es ver' ho
        split at h
        · rename_i hc
          obtain ⟨rfl, c1, c2, c3, c4, c5, c6⟩ := hc
          injection h with h; injection h with e1 e2; subst e1; subst e2
          rintro g0 a w hn ⟨ρ, h1, h2, h3⟩
          have hcut : (G.mk σ ρ w g0.h).cut id = ⟨σ.take id, ρ.take id, w, g0.h⟩ := rfl
          refine ⟨ρ.take id, hcut ▸ h1.cut c6, hcut ▸ h2.cut (by omega), h3.defers, by rw [h3.size, dn_length, dn_length], fun i p hp => ?_⟩
          rw [dn_get] at hp
          split at hp
          · rename_i hi
            injection hp with hp; subst hp
            obtain ⟨v, k1, k2⟩ := h3.slot i (look l i) (by rw [dn_get, if_pos hi])
            refine ⟨v, k1, ?_⟩
            rw [look_put]
            split
            · subst_vars; rw [hlk] at k2; exact R_froz h1 k2 ho c3 c4
            · rename_i hne; exact k2.cut (frBel_look c5 hne)
          · cases hp
        · cases h
      · cases h
    · cases h

end Aw
end Go.Proofs.Ytpjadhjjeafffaa
