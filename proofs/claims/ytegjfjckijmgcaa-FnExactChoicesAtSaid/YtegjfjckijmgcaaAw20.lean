/- Calls in a state of their own: what the caller owns is lent, or kept out of sight. -/
import Derived.Test.YtegjfjckijmgcaaAw19
set_option linter.unusedVariables false
set_option linter.unusedSimpArgs false
namespace Go.Proofs.Ytegjfjckijmgcaa
namespace Aw

def mapO {α β : Type} (f : α → Option β) : List α → Option (List β)
  | [] => some []
  | x :: xs => match f x, mapO f xs with
    | some y, some ys => some (y :: ys)
    | _, _ => none
theorem mapO_spec {α β : Type} {f : α → Option β} : ∀ {xs : List α} {ys : List β}, mapO f xs = some ys → ys.length = xs.length ∧ ∀ (j : Nat) y, ys[j]? = some y → ∃ x, xs[j]? = some x ∧ f x = some y
  | [], ys, h => by simp [mapO] at h; subst h; exact ⟨rfl, fun j y hy => by simp at hy⟩
  | x :: xs, ys, h => by
    simp only [mapO] at h
    split at h
    · rename_i y ys' h1 h2
      injection h with h; subst h
      obtain ⟨k1, k2⟩ := mapO_spec h2
      refine ⟨by simp [k1], fun j z hz => ?_⟩
      cases j with
      | zero => simp at hz; subst hz; exact ⟨x, by simp, h1⟩
      | succ j => simp at hz; simpa using k2 j z hz
    · cases h

/-- What is owned, as it would be if nobody wrote it again. -/
def dfr (σ : List AObj) : Nat → PV → Option PV
  | 0, _ => none
  | d + 1, .own id ver off len => match σ[id]? with
    | some (.row sz es ver') => if ver = ver' ∧ len ≤ 140737488355328 then (mapO (dfr σ d) ((es.drop off).take len)).map fun xs => .list sz xs false else none
    | none => none
  | d + 1, .ptr id ver i off => match σ[id]? with
    | some (.row sz es ver') => if ver = ver' then (match es[i]? with | some e => (mapO (dfr σ d) e.cells).map fun cs => .fptr cs off | none => none) else none
    | none => none
  | d + 1, .agg ps => (mapO (dfr σ d) ps).map .agg
  | d + 1, .tup ps => (mapO (dfr σ d) ps).map .tup
  | d + 1, .fn f ps => (mapO (dfr σ d) ps).map (.fn f)
  | _ + 1, .tl _ _ => none
  | d + 1, p => some p

theorem dfr_cells {σ : List AObj} : ∀ {d : Nat} {p q : PV}, dfr σ (d + 1) p = some q → q.cells.length = p.cells.length ∧ (∀ (j : Nat) r, q.cells[j]? = some r → ∃ s, p.cells[j]? = some s ∧ ∃ d', d ≤ d' ∧ d' ≤ d + 1 ∧ dfr σ d' s = some r) := by
  intro d p q h
  have other : ∀ {p q : PV}, p.cells = [p] → q.cells = [q] → dfr σ (d + 1) p = some q → q.cells.length = p.cells.length ∧ (∀ (j : Nat) r, q.cells[j]? = some r → ∃ s, p.cells[j]? = some s ∧ ∃ d', d ≤ d' ∧ d' ≤ d + 1 ∧ dfr σ d' s = some r) := by
    intro p q hp hq h
    rw [hp, hq]
    refine ⟨rfl, fun j r hr => ?_⟩
    cases j with
    | zero => simp at hr; subst hr; exact ⟨p, by simp, d + 1, by omega, by omega, h⟩
    | succ j => simp at hr
  cases p with
  | agg ps =>
    simp only [dfr, Option.map_eq_some_iff] at h
    obtain ⟨qs, h1, rfl⟩ := h
    obtain ⟨k1, k2⟩ := mapO_spec h1
    exact ⟨k1, fun j r hr => let ⟨s, e1, e2⟩ := k2 j r hr; ⟨s, e1, d, by omega, by omega, e2⟩⟩
  | any => simp only [dfr, Option.some.injEq] at h; subst h; exact other rfl rfl rfl
  | val v => simp only [dfr, Option.some.injEq] at h; subst h; exact other rfl rfl rfl
  | list a b c => simp only [dfr, Option.some.injEq] at h; subst h; exact other rfl rfl rfl
  | fptr a b => simp only [dfr, Option.some.injEq] at h; subst h; exact other rfl rfl rfl
  | tl a b => simp [dfr] at h
  | tup ps =>
    have h' := h
    simp only [dfr, Option.map_eq_some_iff] at h; obtain ⟨qs, h1, rfl⟩ := h; exact other rfl rfl h'
  | fn f ps =>
    have h' := h
    simp only [dfr, Option.map_eq_some_iff] at h; obtain ⟨qs, h1, rfl⟩ := h; exact other rfl rfl h'
  | own id ver off len =>
    have h' := h
    simp only [dfr] at h
    split at h
    · split at h
      · simp only [Option.map_eq_some_iff] at h; obtain ⟨qs, h1, rfl⟩ := h; exact other rfl rfl h'
      · cases h
    · cases h
  | ptr id ver i off =>
    have h' := h
    simp only [dfr] at h
    split at h
    · split at h
      · split at h
        · simp only [Option.map_eq_some_iff] at h; obtain ⟨qs, h1, rfl⟩ := h; exact other rfl rfl h'
        · cases h
      · cases h
    · cases h

theorem dfr_bel {σ : List AObj} : ∀ {d : Nat} {p q : PV}, dfr σ d p = some q → q.bel 0 = true
  | 0, _, _, h => by simp [dfr] at h
  | d + 1, p, q, h => by
    have ih := @dfr_bel σ d
    have many : ∀ {ps qs : List PV}, mapO (dfr σ d) ps = some qs → PV.bels 0 qs = true := fun h => PV.bels_iff.2 fun q hq => by
      obtain ⟨j, hj⟩ := List.mem_iff_getElem?.1 hq
      obtain ⟨x, _, hx⟩ := (mapO_spec h).2 j q hj
      exact ih hx
    cases p with
    | agg ps => simp only [dfr, Option.map_eq_some_iff] at h; obtain ⟨qs, h1, rfl⟩ := h; simp only [PV.bel]; exact many h1
    | tup ps => simp only [dfr, Option.map_eq_some_iff] at h; obtain ⟨qs, h1, rfl⟩ := h; simp only [PV.bel]; exact many h1
    | fn f ps => simp only [dfr, Option.map_eq_some_iff] at h; obtain ⟨qs, h1, rfl⟩ := h; simp only [PV.bel]; exact many h1
    | any => simp only [dfr, Option.some.injEq] at h; subst h; rfl
    | val v => simp only [dfr, Option.some.injEq] at h; subst h; rfl
    | list a b c => simp only [dfr, Option.some.injEq] at h; subst h; rfl
    | fptr a b => simp only [dfr, Option.some.injEq] at h; subst h; rfl
    | tl a b => simp [dfr] at h
    | own id ver off len =>
      simp only [dfr] at h
      split at h
      · split at h
        · simp only [Option.map_eq_some_iff] at h; obtain ⟨qs, h1, rfl⟩ := h; rfl
        · cases h
      · cases h
    | ptr id ver i off =>
      simp only [dfr] at h
      split at h
      · split at h
        · split at h
          · simp only [Option.map_eq_some_iff] at h; obtain ⟨qs, h1, rfl⟩ := h; rfl
          · cases h
        · cases h
      · cases h

/-- The state without objects: nobody will write anything again, but for what is out of sight. -/
def G.none (g : G) : G := ⟨[], [], g.w, g.h⟩
theorem G.frz_none {g : G} {b : Nat} (h : g.frz b) : g.none.frz b := ⟨h.1, fun i hi => by simp [G.none] at hi, h.2.2⟩
theorem VR.none {g : G} : ∀ {m : Nat} {p : PV} {c : Value}, p.bel 0 = true → VR g m p c → VR g.none m p c
  | 0, _, _, _, k => k.elim
  | m + 1, p, c, hb, k => by
    have ih := @VR.none g m
    cases p with
    | any => trivial
    | val v => exact k
    | agg ps =>
      simp only [VR, PV.bel] at k hb ⊢
      obtain ⟨cs, h1, h2, h3⟩ := k
      exact ⟨cs, h1, h2, fun j p v hp hv => ih (PV.bels_iff.1 hb p (List.mem_of_getElem? hp)) (h3 j p v hp hv)⟩
    | tup ps =>
      simp only [VR, PV.bel] at k hb ⊢
      obtain ⟨cs, h1, h2, h3⟩ := k
      exact ⟨cs, h1, h2, fun j p v hp hv => ih (PV.bels_iff.1 hb p (List.mem_of_getElem? hp)) (h3 j p v hp hv)⟩
    | list sz xs ex =>
      simp only [VR] at k ⊢
      obtain ⟨a, cap, h1, h2, h3, h4, h5, h6⟩ := k
      refine ⟨a, cap, h1, h2, h3, h4, h5, fun h0 => ?_⟩
      obtain ⟨ad, e1, e2, e3, e4⟩ := h6 h0
      refine ⟨ad, e1, e2, G.frz_none e3, fun j p hp => ?_⟩
      obtain ⟨v, q1, q2⟩ := e4 j p hp
      refine ⟨v, q1, ih ?_ q2⟩
      obtain ⟨x, hx, hp'⟩ := List.mem_flatMap.1 (List.mem_of_getElem? hp)
      exact bels_cells (h5 x hx).1 p hp'
    | tl sz xs =>
      simp only [VR, PV.bel] at k hb ⊢
      obtain ⟨a, cap, h1, h2, h3, h6⟩ := k
      refine ⟨a, cap, h1, h2, h3, fun h0 => ?_⟩
      obtain ⟨ad, e1, e2, e3, e4⟩ := h6 h0
      refine ⟨ad, e1, e2, G.frz_none e3, fun j p hp => ?_⟩
      obtain ⟨v, q1, q2⟩ := e4 j p hp
      refine ⟨v, q1, ih ?_ q2⟩
      obtain ⟨x, hx, hp'⟩ := List.mem_flatMap.1 (List.mem_of_getElem? hp)
      exact bels_cells (PV.bels_iff.1 hb x hx) p hp'
    | fptr cs off =>
      simp only [VR] at k ⊢
      obtain ⟨ad, e1, e2, e3, e4⟩ := k
      exact ⟨ad, e1, e2, G.frz_none e3, fun j p hp => let ⟨q0, v, q1, q2⟩ := e4 j p hp; ⟨q0, v, q1, ih q0 q2⟩⟩
    | own id ver off len => simp [PV.bel] at hb
    | ptr id ver i off => simp [PV.bel] at hb
    | fn f caps =>
      simp only [VR, PV.bel] at k hb ⊢
      obtain ⟨cs, h1, h2, h3⟩ := k
      exact ⟨cs, h1, h2, fun j p v hp hv => ih (PV.bels_iff.1 hb p (List.mem_of_getElem? hp)) (h3 j p v hp hv)⟩
theorem R.none {g : G} {p : PV} {c : Value} (hb : p.bel 0 = true) (h : R g p c) : R g.none p c := let ⟨m, h⟩ := h; ⟨m, h.none hb⟩

theorem dfr_sound {g : G} (hs : St g) : ∀ {d : Nat} {p q : PV} {v : Value}, R g p v → dfr g.σ d p = some q → R g.none q v
  | 0, _, _, _, _, h => by simp [dfr] at h
  | d + 1, p, q, v, hr, h => by
    have ih := @dfr_sound g hs d
    have many : ∀ {ps qs : List PV} {cs : List Value}, Rs g ps cs → mapO (dfr g.σ d) ps = some qs → Rs g.none qs cs := by
      intro ps qs cs hr h
      obtain ⟨k1, k2⟩ := mapO_spec h
      refine ⟨by rw [k1]; exact hr.1, fun j p v hp hv => ?_⟩
      obtain ⟨x, e1, e2⟩ := k2 j p hp
      exact ih (hr.2 j x v e1 hv) e2
    have same : ∀ {p : PV}, p.bel 0 = true → R g p v → R g.none p v := fun hb hr => hr.none hb
    cases p with
    | any => simp only [dfr, Option.some.injEq] at h; subst h; exact R_any _ _
    | val u => simp only [dfr, Option.some.injEq] at h; subst h; exact same rfl hr
    | list a b c => simp only [dfr, Option.some.injEq] at h; subst h; exact same rfl hr
    | fptr a b => simp only [dfr, Option.some.injEq] at h; subst h; exact same rfl hr
    | agg ps =>
      simp only [dfr, Option.map_eq_some_iff] at h; obtain ⟨qs, h1, rfl⟩ := h
      obtain ⟨cs, e1, e2⟩ := R_agg.1 hr
      exact R_agg.2 ⟨cs, e1, many e2 h1⟩
    | tup ps =>
      simp only [dfr, Option.map_eq_some_iff] at h; obtain ⟨qs, h1, rfl⟩ := h
      obtain ⟨cs, e1, e2⟩ := R_tup.1 hr
      exact R_tup.2 ⟨cs, e1, many e2 h1⟩
    | fn f ps =>
      simp only [dfr, Option.map_eq_some_iff] at h; obtain ⟨qs, h1, rfl⟩ := h
      obtain ⟨cs, e1, e2⟩ := R_fn.1 hr
      exact R_fn.2 ⟨cs, e1, many e2 h1⟩
    | tl a b => simp [dfr] at h
    | own id ver off len =>
      simp only [dfr] at h
      split at h
      · rename_i sz es ver' ho
        split at h
        · rename_i hc
          obtain ⟨rfl, hl⟩ := hc
          simp only [Option.map_eq_some_iff] at h; obtain ⟨qs, h1, rfl⟩ := h
          obtain ⟨a, cap, q1, q2, sz', es', ver', k3, k4, k5⟩ := R_own.1 hr
          rw [ho] at k3; injection k3 with k3; injection k3 with e1 e2 e3; subst e1; subst e2; subst e3
          obtain ⟨k6, k7⟩ := k5 rfl
          obtain ⟨m1, m2⟩ := mapO_spec h1
          have hlen : ((es.drop off).take len).length = len := by simp; omega
          rw [hlen] at m1
          refine R_list.2 ⟨a, cap, by rw [m1]; exact q1, ⟨by rw [m1]; exact q2, fun hn => own_none k7 hn⟩, by rw [m1]; omega, by simp, fun x hx => ?_, fun h0 => ?_⟩
          · obtain ⟨j, hj⟩ := List.mem_iff_getElem?.1 hx
            obtain ⟨y, hy1, hy2⟩ := m2 j x hj
            refine ⟨dfr_bel hy2, ?_⟩
            have hy' : y ∈ es := List.mem_of_mem_drop (List.mem_of_mem_take (List.mem_of_getElem? hy1))
            cases d with
            | zero => simp [dfr] at hy2
            | succ d =>
              rw [(dfr_cells hy2).1]
              rcases hs.obj id sz es ver ho with ⟨b, cs, e, fr, n1, n2, n3, n4, n5, n6⟩ | ⟨n1, n2⟩
              · exact n4 y hy'
              · subst n2; simp at hy'
          · rw [m1] at h0
            rcases hs.obj id sz es ver ho with ⟨b, cs, e, fr, n1, n2, n3, n4, n5, n6⟩ | ⟨n1, n2⟩
            · rw [n1] at k7
              obtain ⟨h8, s, h9, h10⟩ := k7
              refine ⟨⟨b, off * sz, none⟩, h8 (by omega), rfl, ⟨hs.block_lt n1, fun i hi => by simp [G.none] at hi, hs.hid.2 id b n1⟩, fun j p hp => ?_⟩
              -- the cell j belongs to an element
              have hq : ∀ x ∈ qs, x.cells.length = sz := by
                intro x hx
                obtain ⟨j, hj⟩ := List.mem_iff_getElem?.1 hx
                obtain ⟨y, hy1, hy2⟩ := m2 j x hj
                have hy' : y ∈ es := List.mem_of_mem_drop (List.mem_of_mem_take (List.mem_of_getElem? hy1))
                cases d with
                | zero => simp [dfr] at hy2
                | succ d => rw [(dfr_cells hy2).1]; exact n4 y hy'
              have hsz : 0 < sz := by
                rcases Nat.eq_zero_or_pos sz with h0 | h0
                · have := flat_length hq; rw [h0, Nat.mul_zero] at this
                  rw [List.eq_nil_of_length_eq_zero this] at hp; simp at hp
                · exact h0
              rw [flat_at hsz hq] at hp
              cases hqj : qs[j / sz]? with
              | none => rw [hqj] at hp; simp at hp
              | some x =>
                rw [hqj] at hp; simp only [Option.bind_some] at hp
                obtain ⟨y, hy1, hy2⟩ := m2 _ x hqj
                cases d with
                | zero => simp [dfr] at hy2
                | succ d =>
                  obtain ⟨s', hs1, d', hd1, hd2, hs2⟩ := (dfr_cells hy2).2 _ p hp
                  rw [List.getElem?_take] at hy1
                  split at hy1
                  · rw [List.getElem?_drop] at hy1
                    have hflat : (es.flatMap PV.cells)[off * sz + j]? = some s' := by
                      have hmod : j % sz < sz := Nat.mod_lt _ hsz
                      have := flat_get n4 hy1 hmod
                      rw [hs1] at this
                      rw [← this]
                      congr 1
                      rw [Nat.add_mul]
                      have := Nat.div_add_mod j sz
                      rw [Nat.mul_comm] at this
                      omega
                    obtain ⟨u, hu1, hu2⟩ := n6 _ _ hflat
                    refine ⟨u, ?_, ?_⟩
                    · show g.w.cell? _ = _
                      rw [addr_add_mk]
                      simp [World.cell?, n2, hu1]
                    · have : d' = d + 1 ∨ d' = d := by omega
                      rcases this with rfl | rfl
                      · exact ih hu2 hs2
                      · exact dfr_sound hs hu2 hs2
                  · cases hy1
            · subst n2; simp at hlen; omega
        · cases h
      · cases h
    | ptr id ver i off =>
      simp only [dfr] at h
      split at h
      · rename_i sz es ver' ho
        split at h
        · rename_i hc
          subst hc
          split at h
          · rename_i e he
            simp only [Option.map_eq_some_iff] at h; obtain ⟨qs, h1, rfl⟩ := h
            obtain ⟨ad, q0, sz', es', ver', k3, k4, k5⟩ := R_ptr.1 hr
            rw [ho] at k3; injection k3 with k3; injection k3 with e1 e2 e3; subst e1; subst e2; subst e3
            obtain ⟨k6, b, k7, k8⟩ := k5 rfl
            rcases hs.obj id sz es ver ho with ⟨b', cs, ety, fr, n1, n2, n3, n4, n5, n6⟩ | ⟨n1, n2⟩
            · rw [n1] at k7; injection k7 with k7; injection k7 with k7; subst k7
              refine R_fptr.2 ⟨⟨b', i * sz, none⟩, by rw [addr_add_mk, q0, k8], rfl, ⟨hs.block_lt n1, fun i hi => by simp [G.none] at hi, hs.hid.2 id b' n1⟩, fun j p hp => ?_⟩
              obtain ⟨m1, m2⟩ := mapO_spec h1
              obtain ⟨y, hy1, hy2⟩ := m2 j p hp
              refine ⟨dfr_bel hy2, ?_⟩
              have hj : j < sz := by rw [← n4 e (List.mem_of_getElem? he)]; exact (List.getElem?_eq_some_iff.1 hy1).1
              have := flat_get n4 he hj
              rw [hy1] at this
              obtain ⟨u, hu1, hu2⟩ := n6 _ _ this
              refine ⟨u, ?_, ih hu2 hy2⟩
              show g.w.cell? _ = _
              rw [addr_add_mk]
              simp [World.cell?, n2, hu1]
            · subst n2; simp at he
          · cases h
        · cases h
      · cases h
  termination_by d => d

end Aw
end Go.Proofs.Ytegjfjckijmgcaa
