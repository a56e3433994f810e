/- Frames by their living slots; what a ghost does. -/
import Derived.Test.YtpjadhjjeafffaaAw18
set_option linter.unusedVariables false
set_option linter.unusedSimpArgs false
namespace Go.Proofs.Ytpjadhjjeafffaa
namespace Aw

abbrev Fr := List (Nat × PV)
def look : Fr → Nat → PV
  | [], _ => .any
  | (k, v) :: l, t => if k = t then v else look l t
def put : Fr → Nat → PV → Fr
  | [], t, p => [(t, p)]
  | (k, v) :: l, t, p => if t < k then (t, p) :: (k, v) :: l else if t = k then (t, p) :: l else (k, v) :: put l t p
def kil : Fr → Nat → Fr
  | [], _ => []
  | (k, v) :: l, t => if k = t then kil l t else (k, v) :: kil l t
def kils : Fr → List Nat → Fr
  | l, [] => l
  | l, t :: ts => kils (kil l t) ts
def putD (l : Fr) (d : Option Nat) (p : PV) : Fr := match d with | some d => put l d p | none => l
def kilD (l : Fr) (d : Option Nat) : Fr := match d with | some d => kil l d | none => l
/-- All slots. -/
def dn (N : Nat) (l : Fr) : List PV := (List.range N).map (look l)

theorem look_put (t : Nat) (p : PV) (u : Nat) : ∀ l : Fr, look (put l t p) u = if u = t then p else look l u
  | [] => by simp only [put, look]; split <;> split <;> simp_all
  | (k, v) :: l => by
    simp only [put]
    by_cases h1 : t < k
    · rw [if_pos h1]
      by_cases h2 : u = t
      · subst h2; simp [look]
      · have : ¬ t = u := fun e => h2 e.symm
        rw [if_neg h2]; simp only [look, if_neg this]
    · rw [if_neg h1]
      by_cases h3 : t = k
      · rw [if_pos h3]; subst h3
        by_cases h2 : u = t
        · subst h2; simp [look]
        · have : ¬ t = u := fun e => h2 e.symm
          rw [if_neg h2]; simp only [look, if_neg this]
      · rw [if_neg h3]; simp only [look, look_put t p u l]
        by_cases h2 : k = u
        · have : ¬ u = t := by omega
          rw [if_pos h2, if_neg this, if_pos h2]
        · rw [if_neg h2, if_neg h2]
theorem look_kil (t u : Nat) : ∀ l : Fr, look (kil l t) u = if u = t then .any else look l u
  | [] => by simp [kil, look]
  | (k, v) :: l => by
    simp only [kil]
    by_cases h1 : k = t
    · rw [if_pos h1, look_kil t u l]; subst h1
      by_cases h2 : u = k
      · rw [if_pos h2, if_pos h2]
      · have : ¬ k = u := fun e => h2 e.symm
        rw [if_neg h2, if_neg h2]; simp only [look, if_neg this]
    · rw [if_neg h1]; simp only [look, look_kil t u l]
      by_cases h2 : k = u
      · have : ¬ u = t := by omega
        rw [if_pos h2, if_neg this, if_pos h2]
      · rw [if_neg h2, if_neg h2]
theorem look_kils (u : Nat) : ∀ (ts : List Nat) (l : Fr), look (kils l ts) u = look l u ∨ look (kils l ts) u = .any
  | [], l => .inl rfl
  | t :: ts, l => by
    rcases look_kils u ts (kil l t) with h | h
    · simp only [kils, h, look_kil]
      split
      · exact .inr rfl
      · exact .inl rfl
    · exact .inr h
theorem dn_length (N : Nat) (l : Fr) : (dn N l).length = N := by simp [dn]
theorem dn_get (N : Nat) (l : Fr) (t : Nat) : (dn N l)[t]? = if t < N then some (look l t) else none := by
  simp only [dn, List.getElem?_map]
  rcases Nat.lt_or_ge t N with h | h
  · simp [h]
  · simp [h, Nat.not_lt.2 h]
theorem setD_dn (N : Nat) (l : Fr) (d : Option Nat) (p : PV) : setD (dn N l) d p = dn N (putD l d p) := by
  cases d with
  | none => rfl
  | some d =>
    apply List.ext_getElem?
    intro i
    simp only [setD, putD, List.getElem?_set, dn_get, look_put, dn_length]
    split
    · subst_vars; split <;> simp_all
    · rename_i h
      have : ¬ i = d := fun e => h e.symm
      simp [this]
theorem setD_dn_any (N : Nat) (l : Fr) (d : Option Nat) : setD (dn N l) d .any = dn N (kilD l d) := by
  cases d with
  | none => rfl
  | some d =>
    apply List.ext_getElem?
    intro i
    simp only [setD, kilD, List.getElem?_set, dn_get, look_kil, dn_length]
    split
    · subst_vars; split <;> simp_all
    · rename_i h
      have : ¬ i = d := fun e => h e.symm
      simp [this]
theorem aev_dn {N : Nat} {l : Fr} {t : Nat} (h : t < N) : aev (dn N l) (.tmp t) = look l t := by
  simp [aev, dn_get, h]
/-- The first slots: the arguments. -/
def frA : Nat → List PV → Fr
  | _, [] => []
  | k, p :: ps => (k, p) :: frA (k + 1) ps
theorem dn_init (N : Nat) (args : List PV) (h : args.length ≤ N) : args ++ List.replicate (N - args.length) .any = dn N (frA 0 args) := by
  have key : ∀ (args : List PV) (k i : Nat), look (frA k args) i = if k ≤ i then (args[i - k]?).getD .any else .any := by
    intro args
    induction args with
    | nil => intro k i; simp [look, frA]
    | cons p ps ih =>
      intro k i
      simp only [frA, look, ih]
      by_cases h0 : k = i
      · subst h0; simp
      · rw [if_neg h0]
        by_cases h1 : k + 1 ≤ i
        · rw [if_pos h1, if_pos (by omega)]
          have : i - k = (i - (k + 1)) + 1 := by omega
          rw [this]; simp
        · rw [if_neg h1, if_neg (by omega)]
  apply List.ext_getElem?
  intro i
  rw [dn_get, key]
  simp only [Nat.zero_le, if_true, Nat.sub_zero]
  rcases Nat.lt_or_ge i args.length with h1 | h1
  · rw [List.getElem?_append_left h1, if_pos (by omega)]
    simp [h1]
  · rw [List.getElem?_append_right h1]
    simp only [List.getElem?_replicate]
    have : args[i]? = none := List.getElem?_eq_none h1
    rw [this]
    rcases Nat.lt_or_ge i N with h2 | h2
    · rw [if_pos (by omega), if_pos h2]; rfl
    · rw [if_neg (by omega), if_neg (by omega)]

theorem Imp_weak {n N : Nat} {l l' : Fr} {σ : List AObj} (h : ∀ u, look l' u = look l u ∨ look l' u = .any) : Imp n (dn N l) σ (dn N l') σ := by
  rintro g0 a w hn ⟨ρ, h1, h2, h3⟩
  refine ⟨ρ, h1, h2, h3.defers, by rw [h3.size, dn_length, dn_length], fun i p hp => ?_⟩
  rw [dn_get] at hp
  split at hp
  · rename_i hi
    injection hp with hp; subst hp
    obtain ⟨v, k1, k2⟩ := h3.slot i (look l i) (by rw [dn_get, if_pos hi])
    rcases h i with e | e
    · exact ⟨v, k1, by rw [e]; exact k2⟩
    · exact ⟨v, k1, by rw [e]; exact R_any _ _⟩
  · cases hp

def frBel (n t : Nat) : Fr → Bool
  | [] => true
  | (k, v) :: l => (k == t || v.bel n) && frBel n t l
theorem frBel_look {n t u : Nat} : ∀ {l : Fr}, frBel n t l = true → u ≠ t → (look l u).bel n = true
  | [], _, _ => by simp [look, PV.bel]
  | (k, v) :: l, h, hu => by
    simp only [frBel, Bool.and_eq_true, Bool.or_eq_true, beq_iff_eq] at h
    simp only [look]
    split
    · subst_vars; exact h.1.resolve_left (fun e => hu e)
    · exact frBel_look h.2 hu

/-- A ghost. n: how many objects there were at the function's beginning. -/
def evG (n : Nat) (l : Fr) (σ : List AObj) : Gh → Option (Fr × List AObj)
  | .kill ts => some (kils l ts, σ)
  | .fz t => match look l t with
    | .own id ver off len => match σ[id]? with
      | some (.row sz es ver') =>
        if ver = ver' ∧ n ≤ id ∧ id + 1 = σ.length ∧ len ≤ 140737488355328 ∧ PV.bels 0 es = true ∧ frBel id t l = true ∧ objsBel id (σ.take id) = true then
          some (put l t (.list sz ((es.drop off).take len) false), σ.take id) else none
      | none => none
    | _ => none

/-- An object's slice, as a list that nobody will write again: behind the object's end. -/
theorem R_froz {g : G} (hs : St g) {id ver off len sz : Nat} {es : List PV} {v : Value} (hr : R g (.own id ver off len) v) (ho : g.σ[id]? = some (.row sz es ver)) (hl : len ≤ 140737488355328) (hb : PV.bels 0 es = true) :
    R (g.cut id) (.list sz ((es.drop off).take len) false) v := by
  obtain ⟨a, cap, h1, h2, sz', es', ver', h3, h4, h5⟩ := R_own.1 hr
  rw [ho] at h3; injection h3 with h3; injection h3 with e1 e2 e3; subst e1; subst e2; subst e3
  obtain ⟨h6, h7⟩ := h5 rfl
  have hlen : ((es.drop off).take len).length = len := by simp; omega
  refine R_list.2 ⟨a, cap, by rw [hlen]; exact h1, by rw [hlen]; exact h2, by rw [hlen]; exact hl, by simp, fun x hx => ?_, fun h0 => ?_⟩
  · have hx' : x ∈ es := List.mem_of_mem_drop (List.mem_of_mem_take hx)
    refine ⟨PV.bels_iff.1 hb x hx', ?_⟩
    rcases hs.obj id sz es ver ho with ⟨b, cs, e, fr, k1, k2, k3, k4, k5, k6⟩ | ⟨k1, k2⟩
    · exact k4 x hx'
    · subst k2; simp at hx'
  · rw [hlen] at h0
    rcases hs.obj id sz es ver ho with ⟨b, cs, e, fr, k1, k2, k3, k4, k5, k6⟩ | ⟨k1, k2⟩
    · rw [k1] at h7
      obtain ⟨h8, s, h9, h10⟩ := h7
      refine ⟨⟨b, off * sz, none⟩, h8 (by omega), rfl, ⟨?_, fun i hi => ?_, hs.hid.2 id b k1⟩, fun j p hp => ?_⟩
      · exact hs.block_lt k1
      · simp only [G.cut, List.getElem?_take] at hi
        split at hi
        · have := hs.inj i id b hi k1; omega
        · cases hi
      · rw [flat_take_drop k4 off len h6, List.getElem?_take] at hp
        split at hp
        · rw [List.getElem?_drop] at hp
          obtain ⟨u, q1, q2⟩ := k6 (off * sz + j) p hp
          refine ⟨u, ?_, q2.cut ?_⟩
          · show g.w.cell? _ = _
            rw [addr_add_mk]
            simp [World.cell?, k2, q1]
          · obtain ⟨x, hx, hp'⟩ := List.mem_flatMap.1 (List.mem_of_getElem? hp)
            exact PV.bel_le (Nat.zero_le _) (bels_cells (PV.bels_iff.1 hb x hx) p hp')
        · cases hp
    · subst k2; simp at hlen; omega

theorem evG_sound {n N : Nat} {l l' : Fr} {σ σ' : List AObj} {gh : Gh} (h : evG n l σ gh = some (l', σ')) : Imp n (dn N l) σ (dn N l') σ' := by
  cases gh with
  | kill ts =>
    simp only [evG, Option.some.injEq, Prod.mk.injEq] at h
    obtain ⟨rfl, rfl⟩ := h
    exact Imp_weak fun u => look_kils u ts l
  | fz t =>
    simp only [evG] at h
    split at h
    · rename_i id ver off len hlk
      split at h
      · rename_i sz es ver' ho
        split at h
        · rename_i hc
          obtain ⟨rfl, c1, c2, c3, c4, c5, c6⟩ := hc
          injection h with h; injection h with e1 e2; subst e1; subst e2
          rintro g0 a w hn ⟨ρ, h1, h2, h3⟩
          have hcut : (G.mk σ ρ w g0.h).cut id = ⟨σ.take id, ρ.take id, w, g0.h⟩ := rfl
          refine ⟨ρ.take id, hcut ▸ h1.cut c6, hcut ▸ h2.cut (by omega), h3.defers, by rw [h3.size, dn_length, dn_length], fun i p hp => ?_⟩
          rw [dn_get] at hp
          split at hp
          · rename_i hi
            injection hp with hp; subst hp
            obtain ⟨v, k1, k2⟩ := h3.slot i (look l i) (by rw [dn_get, if_pos hi])
            refine ⟨v, k1, ?_⟩
            rw [look_put]
            split
            · subst_vars; rw [hlk] at k2; exact R_froz h1 k2 ho c3 c4
            · rename_i hne; exact k2.cut (frBel_look c5 hne)
          · cases hp
        · cases h
      · cases h
    · cases h

end Aw
end Go.Proofs.Ytpjadhjjeafffaa
