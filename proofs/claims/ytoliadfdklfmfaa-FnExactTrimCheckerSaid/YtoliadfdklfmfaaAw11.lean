/- Each operation gives what is told: append. -/
import Derived.Test.YtoliadfdklfmfaaAw10
set_option linter.unusedVariables false
set_option linter.unusedSimpArgs false
namespace Go.Proofs.Ytoliadfdklfmfaa
namespace Aw
section
variable {g : G}

/-- A new object without cells. -/
theorem St.pushNone (hs : St g) (sz : Nat) : St ⟨g.σ ++ [.row sz [] 0], g.ρ ++ [none], g.w, g.h⟩ ∧ Step g ⟨g.σ ++ [.row sz [] 0], g.ρ ++ [none], g.w, g.h⟩ := by
  have hst : Step g ⟨g.σ ++ [.row sz [] 0], g.ρ ++ [none], g.w, g.h⟩ := by
    refine ⟨rfl, rfl, rfl, rfl, Nat.le_refl _, fun _ _ _ => rfl, fun i b hb => ?_, fun i sz' es ver ho => ?_⟩
    · simp only at hb
      rcases Nat.lt_or_ge i g.ρ.length with hi | hi
      · rw [List.getElem?_append_left hi] at hb; exact .inr ⟨i, hb⟩
      · rw [List.getElem?_append_right hi] at hb
        cases hk : i - g.ρ.length with
        | zero => rw [hk] at hb; simp at hb
        | succ k => rw [hk] at hb; simp at hb
    · have hi : i < g.σ.length := (List.getElem?_eq_some_iff.1 ho).1
      exact ⟨es, ver, by show (g.σ ++ _)[i]? = _; rw [List.getElem?_append_left hi]; exact ho, Nat.le_refl _, fun _ => ⟨Nat.le_refl _, by show (g.ρ ++ _)[i]? = _; rw [List.getElem?_append_left (by rw [hs.len]; exact hi)], fun _ _ => rfl⟩⟩
  refine ⟨⟨hs.hidS hst, by simp [hs.len], fun i j b hi hj => ?_, fun i sz' es' ver ho => ?_, fun i b sz' es' ver ho hv hb => ?_⟩, hst⟩
  rotate_right
  · simp only at ho hb
    rcases Nat.lt_or_ge i g.ρ.length with hi | hi
    · rw [List.getElem?_append_left hi] at hb
      rw [List.getElem?_append_left (by rw [← hs.len]; exact hi)] at ho
      exact hs.ty i b sz' es' ver ho hv hb
    · rw [List.getElem?_append_right hi] at hb
      cases hk : i - g.ρ.length with
      | zero => rw [hk] at hb; simp at hb
      | succ k => rw [hk] at hb; simp at hb
  · have cases_ : ∀ {k : Nat}, (g.ρ ++ [none])[k]? = some (some b) → g.ρ[k]? = some (some b) := by
      intro k hk
      rcases Nat.lt_or_ge k g.ρ.length with h' | h'
      · rwa [List.getElem?_append_left h'] at hk
      · rw [List.getElem?_append_right h'] at hk
        cases hk' : k - g.ρ.length with
        | zero => rw [hk'] at hk; simp at hk
        | succ m => rw [hk'] at hk; simp at hk
    exact hs.inj i j b (cases_ hi) (cases_ hj)
  · simp only at ho
    rcases Nat.lt_or_ge i g.σ.length with hi | hi
    · rw [List.getElem?_append_left hi] at ho
      rcases hs.obj i sz' es' ver ho with ⟨b, cs', e', fr, h1, h2, h3, h4, h5, h6⟩ | ⟨h1, h2⟩
      · exact .inl ⟨b, cs', e', fr, by show (g.ρ ++ _)[i]? = _; rw [List.getElem?_append_left (by rw [hs.len]; exact hi)]; exact h1, h2, h3, h4, h5, fun j p hp => let ⟨v, q1, q2⟩ := h6 j p hp; ⟨v, q1, q2.step hst⟩⟩
      · exact .inr ⟨by show (g.ρ ++ _)[i]? = _; rw [List.getElem?_append_left (by rw [hs.len]; exact hi)]; exact h1, h2⟩
    · rw [List.getElem?_append_right hi] at ho
      cases hk : i - g.σ.length with
      | zero =>
        rw [hk] at ho; simp at ho; obtain ⟨rfl, rfl, rfl⟩ := ho
        refine .inr ⟨?_, rfl⟩
        show (g.ρ ++ _)[i]? = _
        rw [List.getElem?_append_right (by rw [hs.len]; exact hi), hs.len, hk]; rfl
      | succ k => rw [hk] at ho; simp at ho

theorem cells_list {f : Nat → Option Value} : ∀ {qs : List PV}, (∀ (j : Nat) q, qs[j]? = some q → ∃ v, f j = some v ∧ R g q v) → ∃ vs : List Value, (∀ (j : Nat) v, vs[j]? = some v → f j = some v) ∧ Rs g qs vs := by
  intro qs
  induction qs generalizing f with
  | nil => intro _; exact ⟨[], fun j v hv => by simp at hv, rfl, fun j q v hq => by simp at hq⟩
  | cons q qs ih =>
    intro h
    obtain ⟨v, hv1, hv2⟩ := h 0 q (by simp)
    obtain ⟨vs, h1, h2⟩ := ih (f := fun j => f (j + 1)) (fun j r hr => h (j + 1) r (by simpa using hr))
    refine ⟨v :: vs, fun j u hu => ?_, by simp [h2.1], fun j r u hr hu => ?_⟩
    · cases j with
      | zero => simp at hu; subst hu; exact hv1
      | succ j => exact h1 j u (by simpa using hu)
    · cases j with
      | zero => simp at hr hu; subst hr; subst hu; exact hv2
      | succ j => exact h2.2 j r u (by simpa using hr) (by simpa using hu)

theorem cell_heap {w w' : World} (h : w'.heap = w.heap) (a : Addr) : w'.cell? a = w.cell? a := by simp [World.cell?, h]

theorem flat_take_drop {es : List PV} {sz : Nat} (h : ∀ x ∈ es, x.cells.length = sz) (o n : Nat) (hle : o + n ≤ es.length) : ((es.drop o).take n).flatMap PV.cells = ((es.flatMap PV.cells).drop (o * sz)).take (n * sz) := by
  rw [← flat_drop h o (by omega)]
  have h' : ∀ x ∈ es.drop o, x.cells.length = sz := fun x hx => h x (List.mem_of_mem_drop hx)
  have hl : n ≤ (es.drop o).length := by simp; omega
  generalize es.drop o = l at h' hl ⊢
  have key : l.flatMap PV.cells = (l.take n).flatMap PV.cells ++ (l.drop n).flatMap PV.cells := by rw [← List.flatMap_append, List.take_append_drop]
  have e1 : (l.take n).length = n := by simp; omega
  have e2 : ((l.take n).flatMap PV.cells).length = n * sz := by rw [flat_length (sz := sz) (fun x hx => h' x (List.mem_of_mem_take hx)), e1]
  rw [key, ← e2, List.take_left]

variable {P : Program}
/-- The elements of what is appended. -/
theorem more_sound (hs : St g) {px : PV} {cx : Value} {ys : List PV} {sz : Nat} (hr : R g px cx) (h : moreA g.σ px = some ys) (h0 : 0 < sz) (hy : ∀ y ∈ ys, y.cells.length = sz) :
    (∀ w, (Builtin.lenOf cx).run P w = .ok ys.length w) ∧ ∃ news : List Value, Rs g (ys.flatMap PV.cells) news ∧ ∀ w, w.heap = g.w.heap → (Builtin.firstCells sz ys.length cx).run P w = .ok news.toArray w := by
  have hlist : ∀ (ad : Addr), (∀ (j : Nat) q, (ys.flatMap PV.cells)[j]? = some q → ∃ v, g.w.cell? (ad.add j) = some v ∧ R g q v) → ∀ m c, ∃ news : List Value, Rs g (ys.flatMap PV.cells) news ∧ ∀ w, w.heap = g.w.heap → (Builtin.firstCells sz ys.length (.slice (some ad) m c)).run P w = .ok news.toArray w := by
    intro ad hc m c
    obtain ⟨vs, h1, h2⟩ := cells_list hc
    refine ⟨vs, h2, fun w hw => ?_⟩
    have hlen : vs.length = ys.length * sz := by rw [h2.1, flat_length hy]
    exact run_firstCells_some w sz ys.length ad m c vs hlen (fun j v hv => by rw [cell_heap hw]; exact h1 j v hv)
  have hnone : ys = [] → ∀ cx', (∃ a m c, cx' = .slice a m c) → ∃ news : List Value, Rs g (ys.flatMap PV.cells) news ∧ ∀ w, w.heap = g.w.heap → (Builtin.firstCells sz ys.length cx').run P w = .ok news.toArray w := by
    rintro rfl cx' ⟨a, m, c, rfl⟩
    refine ⟨[], ⟨rfl, fun j q v hq => by simp at hq⟩, fun w _ => ?_⟩
    cases a with
    | none => simp [Builtin.firstCells]
    | some ad => simp [Builtin.firstCells, loadCells, loadCellsFrom]
  unfold moreA at h
  split at h
  · rename_i sz' xs
    injection h with h; subst h
    obtain ⟨ad, cap, rfl, ⟨e2, e2n⟩, e5, e6⟩ := R_tl.1 hr
    refine ⟨fun w => by simp [Builtin.lenOf], ?_⟩
    rcases Nat.eq_zero_or_pos xs.length with hz | hz
    · exact hnone (List.eq_nil_of_length_eq_zero hz) _ ⟨_, _, _, rfl⟩
    · obtain ⟨b, rfl, q2, q3, q4⟩ := e6 hz
      exact hlist b q4 _ _
  · rename_i s
    rw [R_val] at hr; subst hr
    injection h with h; subst h
    have hl : (s.data.toList.map fun b => PV.val (.int .u8 b.toNat)).length = s.size := by rw [List.length_map, Array.length_toList]; rfl
    refine ⟨fun w => by rw [hl]; simp [Builtin.lenOf], s.data.toList.map fun b => .int .u8 b.toNat, ?_, fun w _ => ?_⟩
    · have hfl : (s.data.toList.map fun b => PV.val (.int .u8 b.toNat)).flatMap PV.cells = s.data.toList.map fun b => PV.val (.int .u8 b.toNat) := by
        generalize s.data.toList = l
        induction l with
        | nil => rfl
        | cons b l ih => rw [List.map_cons, List.flatMap_cons, ih]; rfl
      rw [hfl]
      refine ⟨by simp, fun j q v hq hv => ?_⟩
      simp at hq hv
      obtain ⟨b, hb, rfl⟩ := hq
      obtain ⟨b', hb', rfl⟩ := hv
      rw [hb] at hb'; injection hb' with hb'; subst hb'
      exact R_val.2 rfl
    · rw [hl]
      simp only [Builtin.firstCells, Sem.run_pure]
      congr 1
      apply Array.ext'
      have : (s.extract 0 s.size).data = s.data := by
        have := ByteArray.extract_zero_size (b := s)
        rw [this]
      rw [this]; simp
  · unfold elemsA at h
    split at h
    · rename_i sz' xs ex _ _
      injection h with h; subst h
      obtain ⟨ad, cap, rfl, ⟨e2, e2n⟩, e3, e4, e5, e6⟩ := R_list.1 hr
      refine ⟨fun w => by simp [Builtin.lenOf], ?_⟩
      rcases Nat.eq_zero_or_pos xs.length with hz | hz
      · exact hnone (List.eq_nil_of_length_eq_zero hz) _ ⟨_, _, _, rfl⟩
      · obtain ⟨b, rfl, q2, q3, q4⟩ := e6 hz
        exact hlist b q4 _ _
    · rename_i id ver off len _ _
      split at h
      · rename_i sz' es ver' hσ
        split at h
        · rename_i hv; subst hv
          injection h with h; subst h
          obtain ⟨ad, cap, rfl, e2, sz'', es', v'', e3, e4, e5⟩ := R_own.1 hr
          rw [hσ] at e3; simp at e3; obtain ⟨rfl, rfl, rfl⟩ := e3
          obtain ⟨q1, q2⟩ := e5 rfl
          have hlen : ((es.drop off).take len).length = len := by simp; omega
          refine ⟨fun w => by rw [hlen]; simp [Builtin.lenOf], ?_⟩
          rcases Nat.eq_zero_or_pos len with hz | hz
          · exact hnone (List.eq_nil_of_length_eq_zero (by rw [hlen, hz])) _ ⟨_, _, _, rfl⟩
          · rcases hs.obj id _ _ _ hσ with ⟨b, cs, el, fz, r1, r2, r3, r4, r5, r6⟩ | ⟨r1, r2⟩
            · simp only [r1] at q2
              obtain ⟨k1, _⟩ := q2
              have k1 := k1 (by omega)
              subst k1
              refine hlist _ (fun j q hq => ?_) _ _
              rw [flat_take_drop r4 off len q1, List.getElem?_take] at hq
              split at hq
              · rw [List.getElem?_drop] at hq
                obtain ⟨v, hv1, hv2⟩ := r6 _ q hq
                refine ⟨v, ?_, hv2⟩
                rw [addr_add_mk]; simp only [World.cell?, r2]; simpa using hv1
              · cases hq
            · subst r2; simp at q1; omega
        · cases h
      · cases h
    · injection h with h; subst h
      rw [R_val] at hr; subst hr
      exact ⟨fun w => by simp [Builtin.lenOf], hnone rfl _ ⟨_, _, _, rfl⟩⟩
    · cases h

theorem andThen_of {α β : Type} {r : Result α} {f : α → World → Result β} {q : Result β} {a : α} {w' : World} (h : r = .ok a w') (k : f a w' = q) : r.andThen f = q := by rw [h]; exact k
theorem run_append_general {t u ty e : TypeId} {ti : TypeInfo} {z : Value} {w : World} {base : Option Addr} {sLen sCap n : Nat} {x : Value} {news olds : Array Value} (ht : P.underlying t = some (.slice e)) (hu : noIntType P u = true) (hi : P.info? e = some ti) (hz : ti.zero = some z)
    (hlen : ∀ w, (Builtin.lenOf x).run P w = .ok n w) (hnew : ∀ w', w'.heap = w.heap → (Builtin.firstCells ti.size n x).run P w' = .ok news w') (hold : ∀ w', w'.heap = w.heap → (Builtin.firstCells ti.size sLen (.slice base sLen sCap)).run P w' = .ok olds w')
    (hbytes : (sLen + n) * ti.bytes ≤ 140737488355328) (hb0 : 0 < ti.bytes) :
    (Builtin.append_ #[t, u] ty #[.slice base sLen sCap, x]).run P w = if sLen + n ≤ sCap then
        ((match base with | some a => storeCells (a.add (sLen * ti.size)) news.toList | none => pure ()).run P w).andThen fun _ w' => .ok (.slice base (sLen + n) sCap) w'
      else .ok (.slice (some ⟨w.heap.size, 0, none⟩) (sLen + n) (grownCap w (sLen + n) sCap e)) { w with drawn := w.drawn + 1, heap := w.heap.push (.cells (olds ++ news ++ Builtin.zeroCells z.cells (grownCap w (sLen + n) sCap e - (sLen + n))) e) } := by
  have hni : ∃ d, P.underlying u = some d ∧ (∀ k, d ≠ .int k) := by
    unfold noIntType at hu
    split at hu
    · cases hu
    · rename_i d hne hd; exact ⟨d, hd, fun k e => hne k e⟩
    · cases hu
  obtain ⟨d, hd, hdk⟩ := hni
  have h63 : ((sLen + n : Nat) : Int) ≤ 9223372036854775807 := by
    have := Nat.le_mul_of_pos_right (sLen + n) hb0
    omega
  have h63' : ¬ ((sLen : Int) + (n : Int) > 9223372036854775807) := by omega
  have hb1 : ¬ (ti.bytes = 0) := by omega
  have hsize : ∀ w, (sizeOf e).run P w = .ok ti.size w := fun w => by simp [sizeOf, typeInfo, hi]
  have hinfo : ∀ w, (typeInfo e).run P w = .ok ti w := fun w => by simp [typeInfo, hi]
  have hzero : ∀ w, (zeroValue e).run P w = .ok z w := fun w => by simp [zeroValue, typeInfo, hi, hz]
  obtain ⟨a0, a1, t0, t1⟩ : (#[Value.slice base sLen sCap, x])[0]? = some (.slice base sLen sCap) ∧ (#[Value.slice base sLen sCap, x])[1]? = some x ∧ (#[t, u])[0]? = some t ∧ (#[t, u])[1]? = some u := ⟨rfl, rfl, rfl, rfl⟩
  unfold Builtin.append_
  rw [a0, a1, t0, t1]
  dsimp only
  rw [Sem.run_bind]
  refine andThen_of (run_underlying ht w) ?_
  dsimp only
  rw [Sem.run_bind]
  refine andThen_of (hsize w) ?_
  rw [Sem.run_bind]
  refine andThen_of (run_underlying hd w) ?_
  rw [Sem.run_bind]
  refine andThen_of (a := false) (w' := w) ?_ ?_
  · cases d <;> first | rfl | exact absurd rfl (hdk _)
  · rw [if_neg (by simp)]
    rw [Sem.run_bind]
    refine andThen_of (hlen w) ?_
    split
    · rename_i hle
      rw [if_pos (by simp), Sem.run_bind]
      refine andThen_of (hnew w rfl) ?_
      cases base <;> simp
    · rename_i hle
      have hfit := growslice_fits (Nat.lt_of_not_le hle) hbytes
      have hfit' : ¬ (Builtin.nextslicecap (sLen + n) sCap * ti.bytes > 2 ^ 48) := by omega
      have hnd := hnew { w with drawn := w.drawn + 1 } rfl
      have hod := hold { w with drawn := w.drawn + 1 } rfl
      rw [Sem.run_bind]
      refine andThen_of (hinfo w) ?_
      rw [if_neg (fun hbad => hbad.2.elim (fun h2 => Bool.noConfusion h2) hb1)]
      rw [Sem.run_bind]
      refine andThen_of (hinfo w) ?_
      rw [if_neg hfit', Sem.run_bind]
      refine andThen_of (a := grownCap w (sLen + n) sCap e) (w' := { w with drawn := w.drawn + 1 }) (by simp [run_choose, Question.forced, grownCap]) ?_
      rw [Sem.run_bind]
      refine andThen_of (hinfo _) ?_
      rw [Sem.run_bind]
      refine andThen_of (run_askRoom P _ _) ?_
      rw [Sem.run_bind]
      refine andThen_of hod ?_
      rw [if_pos (by rfl), Sem.run_bind]
      refine andThen_of hnd ?_
      rw [Sem.run_bind]
      refine andThen_of (hzero _) ?_
      simp [newRow]
      exact ⟨rfl, rfl, rfl⟩

theorem zeroSize_eq {e : TypeId} {sz : Nat} (h : zeroSize P e sz = true) : ∃ i z, P.info? e = some i ∧ i.zero = some z ∧ z.cells.size = sz := by
  unfold zeroSize at h
  split at h
  · rename_i i hi
    split at h
    · rename_i z hz; exact ⟨i, z, hi, hz, by simpa using h⟩
    · cases h
  · cases h

theorem Rs.nil (g : G) : Rs g [] [] := ⟨rfl, fun j q v hq => by simp at hq⟩

/-- A row that grew in new memory. -/
theorem grown_cells {sz need cap : Nat} {z : Value} {es ys : List PV} {olds news : List Value} (ho : Rs g (es.flatMap PV.cells) olds) (hn : Rs g (ys.flatMap PV.cells) news) (he : ∀ x ∈ es, x.cells.length = sz) (hy : ∀ x ∈ ys, x.cells.length = sz)
    (hz : z.cells.size = sz) (hneed : es.length + ys.length = need) (hcap : need ≤ cap) :
    (olds.toArray ++ news.toArray ++ Builtin.zeroCells z.cells (cap - need)).size = cap * sz ∧
    (∀ x ∈ es ++ ys, x.cells.length = sz) ∧ ∀ (j : Nat) p, ((es ++ ys).flatMap PV.cells)[j]? = some p → ∃ v, (olds.toArray ++ news.toArray ++ Builtin.zeroCells z.cells (cap - need))[j]? = some v ∧ R g p v := by
  have h1 : olds.length = es.length * sz := by rw [ho.1, flat_length he]
  have h2 : news.length = ys.length * sz := by rw [hn.1, flat_length hy]
  refine ⟨?_, fun x hx => (List.mem_append.1 hx).elim (he x) (hy x), fun j p hp => ?_⟩
  · simp only [Array.size_append, List.size_toArray, size_zeroCells, hz, h1, h2, ← Nat.add_mul]
    congr 1; omega
  · rw [List.flatMap_append] at hp
    obtain ⟨v, hv1, hv2⟩ := (ho.append hn).get hp
    refine ⟨v, ?_, hv2⟩
    have hj := (List.getElem?_eq_some_iff.1 hv1).1
    rw [Array.getElem?_append_left (by simpa using hj)]
    simpa using hv1

variable {fr : List PV} {a : Act} {o : Oper} {p : PV} {σ' : List AObj}
theorem elems_one {ys : List PV} {news : List Value} {sz : Nat} (hn : Rs g (ys.flatMap PV.cells) news) (hy : ∀ y ∈ ys, y.okc = true) : ∀ v ∈ news, v.oneCell' = true := by
  intro v hv
  obtain ⟨j, hj, rfl⟩ := List.getElem_of_mem hv
  have hj' : j < (ys.flatMap PV.cells).length := by rw [← hn.1]; exact hj
  have hr := hn.2 j _ _ (List.getElem?_eq_getElem hj') (List.getElem?_eq_getElem hj)
  obtain ⟨y, hy1, hy2⟩ := List.mem_flatMap.1 (List.getElem_mem hj')
  exact hr.one (okc_one (hy y hy1) _ hy2)

/-- What append makes of a slice whose capacity is its length. -/
theorem new_append {ti : TypeInfo} {e t u : TypeId} {z s x : Value} {ad : Option Addr} {sz : Nat} {xs ys : List PV} {olds news : List Value} (hs : St g)
    (hexec : ∀ r, (Builtin.append_ #[t, u] o.type #[s, x]).run P g.w = r → (execOp a.eval o).run P g.w = r.andThen fun v w => .ok (.value v) w)
    (hrun : (Builtin.append_ #[t, u] o.type #[s, x]).run P g.w = if xs.length + ys.length ≤ xs.length then
        ((match ad with | some a => storeCells (a.add (xs.length * ti.size)) news.toArray.toList | none => pure ()).run P g.w).andThen fun _ w' => .ok (.slice ad (xs.length + ys.length) xs.length) w'
      else .ok (.slice (some ⟨g.w.heap.size, 0, none⟩) (xs.length + ys.length) (grownCap g.w (xs.length + ys.length) xs.length e)) { g.w with drawn := g.w.drawn + 1, heap := g.w.heap.push (.cells (olds.toArray ++ news.toArray ++ Builtin.zeroCells z.cells (grownCap g.w (xs.length + ys.length) xs.length e - (xs.length + ys.length))) e) })
    (hx : ∀ y ∈ xs, y.cells.length = sz) (hy : ∀ y ∈ ys, y.cells.length = sz) (ho : Rs g (xs.flatMap PV.cells) olds) (hn : Rs g (ys.flatMap PV.cells) news) (hz : z.cells.size = sz) (hor : xs = [] ∨ ys ≠ []) (v0 : Nat) (hv0 : ys = [] → v0 = 0) (hty : 1000000 ≤ v0 → e = v0 / 1000000 - 1) :
    Gives P g o a (.own g.σ.length v0 0 (xs.length + ys.length)) (g.σ ++ [.row sz (xs ++ ys) v0]) := by
  by_cases hle : xs.length + ys.length ≤ xs.length
  · rw [if_pos hle] at hrun
    have hys : ys = [] := List.eq_nil_of_length_eq_zero (by omega)
    subst hys
    have hxs : xs = [] := hor.elim id (fun h => absurd rfl h)
    subst hxs
    have hn0 : news = [] := by have := hn.1; simp at this; exact this
    subst hn0
    obtain rfl := hv0 rfl
    have hrun' : (Builtin.append_ #[t, u] o.type #[s, x]).run P g.w = .ok (.slice ad 0 0) g.w := by
      rw [hrun]; cases ad <;> simp [storeCells]
    obtain ⟨h1, h2⟩ := hs.pushNone sz
    refine ⟨_, _, _, _, by rw [hexec _ hrun']; rfl, .inl rfl, h1, h2, R_own.2 ⟨ad, 0, rfl, Nat.le_refl _, sz, [], 0, by simp, Nat.le_refl _, fun _ => ⟨by simp, ?_⟩⟩⟩
    have hρ : (g.ρ ++ [none])[g.σ.length]? = some none := by rw [← hs.len]; simp
    simp only [hρ]
  · rw [if_neg hle] at hrun
    have hge := grownCap_ge g.w (xs.length + ys.length) xs.length e
    obtain ⟨c1, c2, c3⟩ := grown_cells (g := g) (z := z) ho hn hx hy hz rfl hge
    have hx2 := hexec _ hrun
    simp only [Result.andThen_ok] at hx2
    refine gives_rowV v0 (e := e) (sz := sz) (es := xs ++ ys) (fz := (0, 0)) hs ?_ hx2 (fun j _ => by simp) c2 (by simp) hge (by rw [c1]; exact Nat.le_refl _) c3 hty
    exact ⟨rfl, rfl, rfl, rfl⟩

theorem run_append_zeros {t u ty e : TypeId} {ti : TypeInfo} {z : Value} {w : World} {n : Nat} (ht : P.underlying t = some (.slice e)) (hu : P.underlying u = some (.int .i64)) (hi : P.info? e = some ti) (hz : ti.zero = some z) (hn : 0 < n) (hsz : 0 < ti.size)
    (hbytes : n * ti.bytes ≤ 140737488355328) (hb0 : 0 < ti.bytes) :
    (Builtin.append_ #[t, u] ty #[.slice none 0 0, .int .i64 n]).run P w = .ok (.slice (some ⟨w.heap.size, 0, none⟩) (0 + n) (grownCap w (0 + n) 0 e)) { w with drawn := w.drawn + 1, heap := w.heap.push (.cells (#[] ++ Builtin.zeroCells z.cells n ++ Builtin.zeroCells z.cells (grownCap w (0 + n) 0 e - (0 + n))) e) } := by
  have h63 : (n : Int) ≤ 140737488355328 := by
    have := Nat.le_mul_of_pos_right n hb0
    omega
  have hwr : IntKind.i64.wrap (n : Int) = n := by
    have e1 : (n : Int) % 2 ^ 64 = n := by omega
    have e2 : ¬ ((n : Int) ≥ 2 ^ (64 - 1)) := by omega
    simp only [IntKind.wrap, IntKind.bits, IntKind.signed, e1]
    rw [if_neg (by simp only [Bool.and_eq_true, decide_eq_true_eq, not_and]; exact fun _ => e2)]
  have hb1 : ¬ ((n : Int) * (ti.bytes : Int) > 2 ^ 48) := by
    have : ((n * ti.bytes : Nat) : Int) ≤ 140737488355328 := by omega
    simp only [Int.natCast_mul] at this
    omega
  have hsize : ∀ w, (sizeOf e).run P w = .ok ti.size w := fun w => by simp [sizeOf, typeInfo, hi]
  have hinfo : ∀ w, (typeInfo e).run P w = .ok ti w := fun w => by simp [typeInfo, hi]
  have hzero : ∀ w, (zeroValue e).run P w = .ok z w := fun w => by simp [zeroValue, typeInfo, hi, hz]
  have hnz : ¬ (n * ti.size = 0) := by have := Nat.mul_pos hn hsz; omega
  obtain ⟨a0, a1, t0, t1⟩ : (#[Value.slice none 0 0, Value.int .i64 n])[0]? = some (.slice none 0 0) ∧ (#[Value.slice none 0 0, Value.int .i64 n])[1]? = some (.int .i64 n) ∧ (#[t, u])[0]? = some t ∧ (#[t, u])[1]? = some u := ⟨rfl, rfl, rfl, rfl⟩
  unfold Builtin.append_
  rw [a0, a1, t0, t1]
  dsimp only
  rw [Sem.run_bind]
  refine andThen_of (run_underlying ht w) ?_
  dsimp only
  rw [Sem.run_bind]
  refine andThen_of (hsize w) ?_
  rw [Sem.run_bind]
  refine andThen_of (run_underlying hu w) ?_
  rw [Sem.run_bind]
  refine andThen_of (a := true) (w' := w) rfl ?_
  rw [if_pos rfl]
  have hle : ¬ (0 + n ≤ 0) := by omega
  have hfit := growslice_fits (old := 0) (Nat.lt_of_not_le hle) (show (0 + n) * ti.bytes ≤ 140737488355328 by rw [Nat.zero_add]; exact hbytes)
  have hfit' : ¬ (Builtin.nextslicecap (0 + n) 0 * ti.bytes > 2 ^ 48) := by omega
  have hmax : ¬ (((0 + n : Nat) : Int) > IntKind.i64.max ∧ (true = true ∨ ti.bytes = 0)) := fun h => by
    have h1 := h.1
    have : IntKind.i64.max = 9223372036854775807 := by decide
    omega
  rw [Sem.run_bind]
  refine andThen_of (a := (n : Int)) (w' := w) (by simp [asInt, asIntOf]) ?_
  rw [hwr, if_neg (by omega), Sem.run_bind]
  refine andThen_of (hinfo w) ?_
  rw [if_neg hb1, Sem.run_bind]
  refine andThen_of (a := n) (w' := w) (by simp) ?_
  rw [if_neg hle, Sem.run_bind]
  refine andThen_of (hinfo w) ?_
  rw [if_neg hmax, Sem.run_bind]
  refine andThen_of (hinfo w) ?_
  rw [if_neg hfit', Sem.run_bind]
  refine andThen_of (a := grownCap w (0 + n) 0 e) (w' := { w with drawn := w.drawn + 1 }) (by simp [run_choose, Question.forced, grownCap]) ?_
  rw [Sem.run_bind]
  refine andThen_of (hinfo _) ?_
  rw [Sem.run_bind]
  refine andThen_of (run_askRoom P _ _) ?_
  rw [Sem.run_bind]
  refine andThen_of (a := #[]) (w' := { w with drawn := w.drawn + 1 }) (by simp [Builtin.firstCells]) ?_
  rw [if_neg (by simp), if_neg hnz, Sem.run_bind]
  refine andThen_of (a := Builtin.zeroCells z.cells n) (w' := { w with drawn := w.drawn + 1 }) ?_ ?_
  · rw [Sem.run_bind]
    refine andThen_of (hzero _) ?_
    simp
  rw [Sem.run_bind]
  refine andThen_of (hzero _) ?_
  simp [newRow]
  exact ⟨rfl, rfl, rfl⟩
theorem g_appz {c : Call} {s x : Operand} {sz bytes : Nat} (hs : St g) (hf : FR g fr a) (ho : o.op = .call c) (hc : isAppend c = true) (hx : oeqs c.args.toList [s, x] = true) (ht : appzTypes P c.argTypes.toList sz bytes = true)
    (h : ai fr g.σ (.appz s x sz bytes) = some (p, σ')) : Gives P g o a p σ' := by
  have hcal := isAppend_eq hc
  have hargs : c.args = #[s, x] := by have := oeqs_eq hx; apply Array.ext'; simpa using this
  unfold appzTypes at ht
  split at ht
  · rename_i t u hts
    have htypes : c.argTypes = #[t, u] := by apply Array.ext'; simpa using hts
    simp only [Bool.and_eq_true] at ht
    obtain ⟨ht, hu⟩ := ht
    split at ht
    · rename_i e he
      split at hu
      · rename_i hue
        simp only [Bool.and_eq_true, decide_eq_true_eq] at ht
        obtain ⟨⟨⟨⟨hsz, hby⟩, hb0⟩, h0⟩, hzs⟩ := ht
        obtain ⟨ti, z, hti, hz, hzc⟩ := zeroSize_eq hzs
        have htis : ti.size = sz := by
          have h1 := sizeIs_run (P := P) hsz g.w
          simp [sizeOf, typeInfo, hti] at h1; exact h1
        have htib : ti.bytes = bytes := by obtain ⟨i, h1, h2⟩ := bytesIs_run hby; rw [hti] at h1; injection h1 with h1; subst h1; exact h2
        have hexec : ∀ r, (Builtin.append_ #[t, u] o.type #[a.eval s, a.eval x]).run P g.w = r → (execOp a.eval o).run P g.w = r.andThen fun v w => .ok (.value v) w := by
          intro r hr
          unfold execOp
          simp [ho, resolve, hcal, hargs, htypes, invoke, builtin, hr]
        have hrs := hf.ev s
        have hrx := hf.ev x
        simp only [ai] at h
        split at h
        · rename_i n hsv hxv
          rw [hsv, R_val] at hrs
          rw [hxv, R_val] at hrx
          split at h
          · rename_i hb
            obtain ⟨m, rfl⟩ := Int.eq_ofNat_of_zero_le (Int.le_of_lt hb.1)
            simp at h; obtain ⟨rfl, rfl⟩ := h
            rw [Int.toNat_natCast] at hb
            have hm : 0 < m := by omega
            have hrun := run_append_zeros (P := P) (w := g.w) (ty := o.type) he hue hti hz hm (by omega) (by rw [htib]; exact hb.2) (by rw [htib]; exact hb0)
            rw [← hrs, ← hrx] at hrun
            have hcl : (anyE sz).cells.length = sz := by unfold anyE; split <;> simp [PV.cells]; omega
            have hany : ∀ q ∈ (anyE sz).cells, q = .any := by
              unfold anyE
              split
              · simp [PV.cells]
              · simp only [PV.cells]; exact fun q hq => List.eq_of_mem_replicate hq
            have hflat : ∀ q ∈ (List.replicate m (anyE sz)).flatMap PV.cells, q = .any := fun q hq => by
              obtain ⟨y, hy, hq⟩ := List.mem_flatMap.1 hq
              rw [List.eq_of_mem_replicate hy] at hq
              exact hany q hq
            have hlen : (List.replicate m (anyE sz)).length = m := by simp
            have hcel : ∀ y ∈ List.replicate m (anyE sz), y.cells.length = sz := fun y hy => by rw [List.eq_of_mem_replicate hy]; exact hcl
            have hn1 : Rs g ((List.replicate m (anyE sz)).flatMap PV.cells) (Builtin.zeroCells z.cells m).toList := by
              refine ⟨?_, fun j q v hq hv => ?_⟩
              · rw [flat_length hcel, hlen]; simp [size_zeroCells, hzc]
              · rw [hflat q (List.mem_of_getElem? hq)]; exact R_any _ _
            have := new_append (ti := ti) (e := e) (z := z) (ad := none) (xs := []) (olds := []) (ys := List.replicate m (anyE sz)) (news := (Builtin.zeroCells z.cells m).toList) (sz := sz) hs hexec (by rw [if_neg (by simp; omega)]; simpa using hrun) (by simp) hcel (Rs.nil g) hn1 hzc (.inl rfl) 0 (fun _ => rfl) (fun h => by omega)
            simpa using this
          · cases h
        · cases h
      · cases hu
    · cases ht
  · cases ht
theorem verT_ty {T : Option TypeId} {e : TypeId} (hT : ∀ T0, T = some T0 → e = T0) (h : 1000000 ≤ verT T) : e = verT T / 1000000 - 1 := by
  cases T with
  | none => exact absurd h (by decide)
  | some T0 =>
    have := hT T0 rfl
    subst this
    show e = (e + 1) * 1000000 / 1000000 - 1
    rw [Nat.mul_div_cancel _ (by omega)]; rfl
theorem okVer_div {T : Option TypeId} {v : Nat} (h : okVer T v = true) (h1 : 1000000 ≤ v + 1) : ∃ T0, T = some T0 ∧ 1000000 ≤ v ∧ v / 1000000 = T0 + 1 ∧ (v + 1) / 1000000 = v / 1000000 := by
  cases T with
  | none => simp [okVer] at h; omega
  | some T0 =>
    simp [okVer] at h
    refine ⟨T0, rfl, ?_, h.2, by omega⟩
    have h2 := h.2
    have : 1 ≤ v / 1000000 := by rw [h2]; exact Nat.le_add_left 1 T0
    omega
theorem g_appendV {c : Call} {s x : Operand} {sz bytes : Nat} (T : Option TypeId) (hs : St g) (hf : FR g fr a) (ho : o.op = .call c) (hc : isAppend c = true) (hx : oeqs c.args.toList [s, x] = true) (ht : appendTypes P c.argTypes.toList sz bytes = true)
    (hT0 : ∀ t u, c.argTypes.toList = [t, u] → ∀ T0, T = some T0 → P.underlying t = some (.slice T0))
    (h : appV g.σ T (aev fr s) (aev fr x) sz bytes = some (p, σ')) : Gives P g o a p σ' := by
  have hcal := isAppend_eq hc
  have hargs : c.args = #[s, x] := by have := oeqs_eq hx; apply Array.ext'; simpa using this
  unfold appendTypes at ht
  split at ht
  · rename_i t u hts
    have htypes : c.argTypes = #[t, u] := by apply Array.ext'; simpa using hts
    simp only [Bool.and_eq_true] at ht
    obtain ⟨ht, hu⟩ := ht
    split at ht
    · rename_i e he
      have hT : ∀ T0, T = some T0 → e = T0 := fun T0 hT1 => by
        have := hT0 t u hts T0 hT1
        rw [he] at this; injection this with this; injection this
      simp only [Bool.and_eq_true, decide_eq_true_eq] at ht
      obtain ⟨⟨⟨⟨hsz, hby⟩, hb0⟩, h0⟩, hzs⟩ := ht
      obtain ⟨ti, z, hti, hz, hzc⟩ := zeroSize_eq hzs
      have htis : ti.size = sz := by
        have h1 := sizeIs_run (P := P) hsz g.w
        simp [sizeOf, typeInfo, hti] at h1; exact h1
      have htib : ti.bytes = bytes := by obtain ⟨i, h1, h2⟩ := bytesIs_run hby; rw [hti] at h1; injection h1 with h1; subst h1; exact h2
      have hexec : ∀ r, (Builtin.append_ #[t, u] o.type #[a.eval s, a.eval x]).run P g.w = r → (execOp a.eval o).run P g.w = r.andThen fun v w => .ok (.value v) w := by
        intro r hr
        unfold execOp
        simp [ho, resolve, hcal, hargs, htypes, invoke, builtin, hr]
      have hrs := hf.ev s
      have hrx := hf.ev x
      unfold appV at h
      split at h
      · rename_i ys hys
        split at h
        · rename_i hall
          simp only [List.all_eq_true, Bool.and_eq_true, decide_eq_true_eq] at hall
          have hy : ∀ y ∈ ys, y.cells.length = sz := fun y hm => (hall y hm).2
          obtain ⟨hlen, news, hn1, hn2⟩ := more_sound (P := P) hs hrx hys h0 hy
          have hones := elems_one (sz := sz) hn1 fun y hm => (hall y hm).1
          have hnl : news.length = ys.length * sz := by rw [hn1.1, flat_length hy]
          -- what a new row gives, whatever was there
          split at h
          · -- a slice of the state
            rename_i id ver off len hsv
            rw [hsv] at hrs
            split at h
            · rename_i sz' es ver' hσ
              split at h
              · rename_i hb
                obtain ⟨rfl, rfl, rfl, hl, hbd, hvr⟩ := hb
                simp at h; obtain ⟨rfl, rfl⟩ := h
                obtain ⟨ad, cap, e1, e2, sz'', es', v'', e3, e4, e5⟩ := R_own.1 hrs
                rw [hσ] at e3; simp at e3; obtain ⟨rfl, rfl, rfl⟩ := e3
                obtain ⟨q1, q2⟩ := e5 rfl
                rcases hs.obj id _ _ _ hσ with ⟨b, cs, el, fz, r1, r2, r3, r4, r5, r6⟩ | ⟨r1, r2⟩
                · simp only [r1] at q2
                  obtain ⟨k1, s1, k2, k3⟩ := q2
                  have hs1 : s1 = cs.size := by unfold blockSize at k2; rw [r2] at k2; injection k2 with k2; exact k2.symm
                  subst hs1
                  obtain ⟨olds, ho1, ho2⟩ := cells_list (g := g) (f := fun j => cs[j]?) r6
                  have hol : olds.length = len * sz' := by rw [ho2.1, flat_length r4, hl]
                  have hold : ∀ w', w'.heap = g.w.heap → (Builtin.firstCells ti.size len (.slice ad len cap)).run P w' = .ok olds.toArray w' := by
                    intro w' hw'
                    rw [htis]
                    rcases Nat.eq_zero_or_pos len with hz0 | hz0
                    · have : olds = [] := List.eq_nil_of_length_eq_zero (by rw [hol, hz0, Nat.zero_mul])
                      subst this; rw [hz0]
                      cases ad <;> simp [Builtin.firstCells, loadCells, loadCellsFrom]
                    · have k1 := k1 (by omega)
                      subst k1
                      refine run_firstCells_some w' sz' len _ len cap olds hol fun j v hv => ?_
                      rw [cell_heap hw', addr_add_mk]
                      simp only [World.cell?, r2]
                      simpa using ho1 j v hv
                  have hrun := run_append_general (P := P) (w := g.w) (base := ad) (sLen := len) (sCap := cap) (ty := o.type) he hu hti hz hlen (fun w' hw' => by rw [htis]; exact hn2 w' hw') hold (by rw [htib]; exact hbd) (by rw [htib]; exact hb0)
                  rw [← e1] at hrun
                  by_cases hle : len + ys.length ≤ cap
                  · -- in place
                    rw [if_pos hle] at hrun
                    have hfit : 0 * sz' + len * sz' + news.length ≤ cs.size := by
                      rw [hnl, Nat.zero_mul, Nat.zero_add, ← Nat.add_mul]
                      exact Nat.le_trans (Nat.mul_le_mul_right _ (by omega)) k3
                    have hstore : ∃ w', ((match ad with | some a => storeCells (a.add (len * ti.size)) news.toArray.toList | none => pure ()).run P g.w) = .ok () w' ∧ w'.os = g.w.os ∧ w'.tape = g.w.tape ∧ w'.output = g.w.output ∧ w'.heap.size = g.w.heap.size ∧ (∀ k, k ≠ b → w'.heap[k]? = g.w.heap[k]?) ∧
                        w'.heap[b]? = some (.cells ((news.zipIdx 0).foldl (fun cs (x : Value × Nat) => cs.setIfInBounds (len * sz' + x.2) x.1) cs) el fz) := by
                      rcases Nat.eq_zero_or_pos cap with hc0 | hc0
                      · have : news = [] := List.eq_nil_of_length_eq_zero (by rw [hnl, show ys.length = 0 by omega, Nat.zero_mul])
                        subst this
                        refine ⟨g.w, ?_, rfl, rfl, rfl, rfl, fun _ _ => rfl, r2⟩
                        cases ad <;> simp [storeCells]
                      · have k1 := k1 hc0
                        subst k1
                        obtain ⟨w', f1, f2⟩ := run_storeCells_soft (P := P) (b := b) (o := len * sz') news 0 cs g.w r2 r3 (by simpa using hfit) hones
                        refine ⟨w', ?_, f2⟩
                        simp only [htis, addr_add_mk]
                        simpa using f1
                    obtain ⟨w', f1, f2, f3, f4, f5, f6, f7⟩ := hstore
                    rw [f1] at hrun
                    simp only [Result.andThen_ok] at hrun
                    have hget := fun k => foldl_set_get (len * sz') k news 0 cs
                    have hsize := (hget 0).1
                    have hcells : (∀ x ∈ es ++ ys, x.cells.length = sz') ∧ ∀ (j : Nat) p, ((es ++ ys).flatMap PV.cells)[j]? = some p → ∃ v, ((news.zipIdx 0).foldl (fun cs (x : Value × Nat) => cs.setIfInBounds (len * sz' + x.2) x.1) cs)[j]? = some v ∧ R g p v := by
                      refine ⟨fun x hx => (List.mem_append.1 hx).elim (r4 x) (hy x), fun j p hp => ?_⟩
                      have hfl : (es.flatMap PV.cells).length = len * sz' := by rw [flat_length r4, hl]
                      rw [List.flatMap_append] at hp
                      rw [(hget j).2, Nat.add_zero]
                      rcases Nat.lt_or_ge j (len * sz') with h1 | h1
                      · rw [List.getElem?_append_left (by omega)] at hp
                        rw [if_neg (by omega)]
                        exact r6 j p hp
                      · rw [List.getElem?_append_right (by omega), hfl] at hp
                        obtain ⟨v, hv1, hv2⟩ := hn1.get hp
                        have hlt := (List.getElem?_eq_some_iff.1 hv1).1
                        exact ⟨v, by rw [if_pos (by omega)]; exact hv1, hv2⟩
                    have hes : (es ++ ys).length = len + ys.length := by rw [List.length_append, hl]
                    have hlecs : (len + ys.length) * sz' ≤ cs.size := Nat.le_trans (Nat.mul_le_mul_right _ (by omega)) k3
                    obtain ⟨u1, u2⟩ := hs.upd (es' := es ++ ys) (ver' := ver + 1) (ob := some b) hσ f2 f3 f4 (by omega) (fun k _ hk => f6 k (fun e => hk (by rw [r1, e]))) (fun b' hb' => by injection hb' with hb'; subst hb'; exact .inl r1) (by omega) (fun e => by omega)
                      (.inl ⟨b, _, el, fz, rfl, f7, by rw [hsize]; exact r3, hcells.1, by rw [hsize, hes]; exact hlecs, hcells.2⟩) (fun hv b' hb' => by
                        injection hb' with hb'; subst hb'
                        obtain ⟨T0, _, w1, w2, w3⟩ := okVer_div hvr hv
                        obtain ⟨cs0, fr0, k0⟩ := hs.ty id b _ _ _ hσ w1 r1
                        rw [r2] at k0; injection k0 with k0; injection k0 with _ k0 _
                        exact ⟨_, _, by rw [f7, k0, w3]⟩)
                    have hid := (List.getElem?_eq_some_iff.1 hσ).1
                    refine ⟨_, _, w', _, by rw [hexec _ hrun]; rfl, .inl rfl, u1, u2, R_own.2 ⟨ad, cap, rfl, hle, sz', es ++ ys, ver + 1, by simp [hid], Nat.le_refl _, fun _ => ⟨by omega, ?_⟩⟩⟩
                    have hρ : (g.ρ.set id (some b))[id]? = some (some b) := List.getElem?_set_self (by rw [hs.len]; exact hid)
                    simp only [hρ]
                    refine ⟨k1, cs.size, ?_, k3⟩
                    unfold blockSize
                    simp only [f7, hsize]
                  · -- a new row
                    rw [if_neg hle] at hrun
                    have hge := grownCap_ge g.w (len + ys.length) cap e
                    obtain ⟨c1, c2, c3⟩ := grown_cells (g := g) (z := z) ho2 hn1 r4 hy hzc (need := len + ys.length) (by omega) hge
                    have hes : (es ++ ys).length = len + ys.length := by rw [List.length_append, hl]
                    have hid := (List.getElem?_eq_some_iff.1 hσ).1
                    obtain ⟨u1, u2⟩ := hs.upd (es' := es ++ ys) (ver' := ver + 1) (ob := some g.w.heap.size) (w' := { g.w with drawn := g.w.drawn + 1, heap := g.w.heap.push (.cells (olds.toArray ++ news.toArray ++ Builtin.zeroCells z.cells (grownCap g.w (len + ys.length) cap e - (len + ys.length))) e) }) hσ rfl rfl rfl (by simp) (fun k hk _ => by simp only [Array.getElem?_push]; rw [if_neg (by omega)]) (fun b' hb' => by injection hb' with hb'; subst hb'; exact .inr (Nat.le_refl _)) (by omega) (fun e => by omega)
                      (.inl ⟨g.w.heap.size, _, e, (0, 0), rfl, by simp, fun j _ => by simp, c2, by rw [c1, hes]; exact Nat.mul_le_mul_right _ hge, c3⟩) (fun hv b' hb' => by
                        injection hb' with hb'; subst hb'
                        obtain ⟨T0, t1, w1, w2, w3⟩ := okVer_div hvr hv
                        have he0 : e = (ver + 1) / 1000000 - 1 := by rw [hT T0 t1, w3, w2]; rfl
                        exact ⟨_, _, by rw [← he0]; simp; exact ⟨rfl, rfl⟩⟩)
                    refine ⟨_, _, _, _, by rw [hexec _ hrun]; rfl, .inl rfl, u1, u2, R_own.2 ⟨_, _, rfl, hge, sz', es ++ ys, ver + 1, by simp [hid], Nat.le_refl _, fun _ => ⟨by omega, ?_⟩⟩⟩
                    have hρ : (g.ρ.set id (some g.w.heap.size))[id]? = some (some g.w.heap.size) := List.getElem?_set_self (by rw [hs.len]; exact hid)
                    simp only [hρ]
                    refine ⟨fun _ => by simp, (olds.toArray ++ news.toArray ++ Builtin.zeroCells z.cells (grownCap g.w (len + ys.length) cap e - (len + ys.length))).size, by unfold blockSize; simp, ?_⟩
                    rw [c1, Nat.zero_add]; exact Nat.le_refl _
                · -- no cells yet
                  subst r2
                  simp only [r1] at q2
                  subst q2
                  have hl0 : len = 0 := by simpa using hl
                  subst hl0
                  have hid := (List.getElem?_eq_some_iff.1 hσ).1
                  have hρid : id < g.ρ.length := by rw [hs.len]; exact hid
                  have hold : ∀ w', w'.heap = g.w.heap → (Builtin.firstCells ti.size 0 (.slice ad 0 0)).run P w' = .ok #[] w' := by
                    intro w' _; cases ad <;> simp [Builtin.firstCells, loadCells, loadCellsFrom]
                  have hrun := run_append_general (P := P) (w := g.w) (base := ad) (sLen := 0) (sCap := 0) (ty := o.type) he hu hti hz hlen (fun w' hw' => by rw [htis]; exact hn2 w' hw') hold (by rw [htib]; exact hbd) (by rw [htib]; exact hb0)
                  rw [← e1] at hrun
                  by_cases hle : 0 + ys.length ≤ 0
                  · rw [if_pos hle] at hrun
                    have hys0 : ys = [] := List.eq_nil_of_length_eq_zero (by omega)
                    subst hys0
                    have hn0 : news = [] := List.eq_nil_of_length_eq_zero (by simpa using hnl)
                    subst hn0
                    have hrun' : (Builtin.append_ #[t, u] o.type #[a.eval s, a.eval x]).run P g.w = .ok (.slice ad 0 0) g.w := by
                      rw [hrun]; cases ad <;> simp [storeCells]
                    obtain ⟨u1, u2⟩ := hs.upd (es' := []) (ver' := ver + 1) (ob := none) (w' := g.w) hσ rfl rfl rfl (Nat.le_refl _) (fun _ _ _ => rfl) (fun b' hb' => by cases hb') (by omega) (fun e => by omega) (.inr ⟨rfl, rfl⟩) (fun hv b' hb' => by cases hb')
                    refine ⟨_, _, _, _, by rw [hexec _ hrun']; rfl, .inl rfl, by simpa using u1, by simpa using u2, R_own.2 ⟨ad, 0, rfl, Nat.le_refl _, sz', [], ver + 1, by simp [hid], Nat.le_refl _, fun _ => ⟨by simp, ?_⟩⟩⟩
                    have hρ : (g.ρ.set id none)[id]? = some none := List.getElem?_set_self hρid
                    simp only [hρ]
                  · rw [if_neg hle] at hrun
                    have hge := grownCap_ge g.w (0 + ys.length) 0 e
                    obtain ⟨c1, c2, c3⟩ := grown_cells (g := g) (z := z) (es := []) (olds := []) (Rs.nil g) hn1 (by simp) hy hzc (need := 0 + ys.length) (by simp) hge
                    obtain ⟨u1, u2⟩ := hs.upd (es' := [] ++ ys) (ver' := ver + 1) (ob := some g.w.heap.size) (w' := { g.w with drawn := g.w.drawn + 1, heap := g.w.heap.push (.cells (#[] ++ news.toArray ++ Builtin.zeroCells z.cells (grownCap g.w (0 + ys.length) 0 e - (0 + ys.length))) e) }) hσ rfl rfl rfl (by simp) (fun k hk _ => by simp only [Array.getElem?_push]; rw [if_neg (by omega)]) (fun b' hb' => by injection hb' with hb'; subst hb'; exact .inr (Nat.le_refl _)) (by omega) (fun e => by omega)
                      (.inl ⟨g.w.heap.size, _, e, (0, 0), rfl, by simp, fun j _ => by simp, c2, by rw [c1]; exact Nat.mul_le_mul_right _ (by simpa using hge), c3⟩) (fun hv b' hb' => by
                        injection hb' with hb'; subst hb'
                        obtain ⟨T0, t1, w1, w2, w3⟩ := okVer_div hvr hv
                        have he0 : e = (ver + 1) / 1000000 - 1 := by rw [hT T0 t1, w3, w2]; rfl
                        exact ⟨_, _, by rw [← he0]; simp; exact ⟨rfl, rfl⟩⟩)
                    refine ⟨_, _, _, _, by rw [hexec _ hrun]; rfl, .inl rfl, u1, u2, R_own.2 ⟨_, _, rfl, hge, sz', [] ++ ys, ver + 1, by simp [hid], Nat.le_refl _, fun _ => ⟨by simp, ?_⟩⟩⟩
                    have hρ : (g.ρ.set id (some g.w.heap.size))[id]? = some (some g.w.heap.size) := List.getElem?_set_self hρid
                    simp only [hρ]
                    refine ⟨fun _ => by simp, (#[] ++ news.toArray ++ Builtin.zeroCells z.cells (grownCap g.w (0 + ys.length) 0 e - (0 + ys.length))).size, by unfold blockSize; simp, ?_⟩
                    rw [c1, Nat.zero_add]; exact Nat.le_refl _
              · cases h
            · cases h
          · -- a slice whose capacity is its length
            rename_i sz' xs hsv
            rw [hsv] at hrs
            split at h
            · rename_i hb
              obtain ⟨rfl, rfl, hbd, hor, hxo⟩ := hb
              simp at h; obtain ⟨rfl, rfl⟩ := h
              obtain ⟨ad, cap, e1, ⟨e2, e2n⟩, e3, e4, e5, e6⟩ := R_list.1 hrs
              have e4 := e4 rfl
              subst e4
              have hol : ∃ olds : List Value, Rs g (xs.flatMap PV.cells) olds ∧ ∀ w', w'.heap = g.w.heap → (Builtin.firstCells ti.size xs.length (.slice ad xs.length xs.length)).run P w' = .ok olds.toArray w' := by
                rcases Nat.eq_zero_or_pos xs.length with hz0 | hz0
                · have : xs = [] := List.eq_nil_of_length_eq_zero hz0
                  subst this
                  exact ⟨[], Rs.nil g, fun w' _ => by cases ad <;> simp [Builtin.firstCells, loadCells, loadCellsFrom]⟩
                · obtain ⟨b, rfl, q2, q3, q4⟩ := e6 hz0
                  obtain ⟨olds, h1, h2⟩ := cells_list q4
                  refine ⟨olds, h2, fun w' hw' => ?_⟩
                  rw [htis]
                  exact run_firstCells_some w' sz' xs.length b _ _ olds (by rw [h2.1, flat_length fun y hy => (e5 y hy).2]) fun j v hv => by rw [cell_heap hw']; exact h1 j v hv
              obtain ⟨olds, ho1, ho2⟩ := hol
              have hrun := run_append_general (P := P) (w := g.w) (base := ad) (sLen := xs.length) (sCap := xs.length) (ty := o.type) he hu hti hz hlen (fun w' hw' => by rw [htis]; exact hn2 w' hw') ho2 (by rw [htib]; exact hbd) (by rw [htib]; exact hb0)
              rw [← e1] at hrun
              exact new_append hs hexec hrun (fun y hy => (e5 y hy).2) hy ho1 hn1 hzc hor 0 (fun _ => rfl) (fun h => by omega)
            · cases h
          · -- nil
            rename_i hsv
            rw [hsv, R_val] at hrs
            split at h
            · rename_i hbd
              obtain ⟨hbd, hnT⟩ := hbd
              simp at h; obtain ⟨rfl, rfl⟩ := h
              have hrun := run_append_general (P := P) (w := g.w) (base := none) (sLen := 0) (sCap := 0) (ty := o.type) (olds := #[]) he hu hti hz hlen (fun w' hw' => by rw [htis]; exact hn2 w' hw') (fun w' _ => by simp [Builtin.firstCells]) (by rw [htib, Nat.zero_add]; exact hbd) (by rw [htib]; exact hb0)
              rw [← hrs] at hrun
              have := new_append (ti := ti) (e := e) (z := z) (ad := none) (xs := []) (olds := []) (sz := sz) hs hexec hrun (by simp) hy (Rs.nil g) hn1 hzc (.inl rfl) (verT T) (fun h => by rw [hnT h]; rfl) (verT_ty hT)
              simpa using this
            · cases h
          · cases h
        · cases h
      · cases h
    · cases ht
  · cases ht
theorem g_append2 {c : Call} {s x : Operand} {sz bytes : Nat} {q : (PV × List AObj) × (PV × List AObj)} (hs : St g) (hf : FR g fr a) (ho : o.op = .call c) (hc : isAppend c = true) (hx : oeqs c.args.toList [s, x] = true) (ht : appendTypes P c.argTypes.toList sz bytes = true)
    (h : ai2 fr g.σ (.append s x sz bytes) = some q) : Gives P g o a q.1.1 q.1.2 ∨ Gives P g o a q.2.1 q.2.2 := by
  have hcal := isAppend_eq hc
  have hargs : c.args = #[s, x] := by have := oeqs_eq hx; apply Array.ext'; simpa using this
  unfold appendTypes at ht
  split at ht
  · rename_i t u hts
    have htypes : c.argTypes = #[t, u] := by apply Array.ext'; simpa using hts
    simp only [Bool.and_eq_true] at ht
    obtain ⟨ht, hu⟩ := ht
    split at ht
    · rename_i e he
      simp only [Bool.and_eq_true, decide_eq_true_eq] at ht
      obtain ⟨⟨⟨⟨hsz, hby⟩, hb0⟩, h0⟩, hzs⟩ := ht
      obtain ⟨ti, z, hti, hz, hzc⟩ := zeroSize_eq hzs
      have htis : ti.size = sz := by
        have h1 := sizeIs_run (P := P) hsz g.w
        simp [sizeOf, typeInfo, hti] at h1; exact h1
      have htib : ti.bytes = bytes := by obtain ⟨i, h1, h2⟩ := bytesIs_run hby; rw [hti] at h1; injection h1 with h1; subst h1; exact h2
      have hexec : ∀ r, (Builtin.append_ #[t, u] o.type #[a.eval s, a.eval x]).run P g.w = r → (execOp a.eval o).run P g.w = r.andThen fun v w => .ok (.value v) w := by
        intro r hr
        unfold execOp
        simp [ho, resolve, hcal, hargs, htypes, invoke, builtin, hr]
      have hrs := hf.ev s
      have hrx := hf.ev x
      simp only [ai2] at h
      split at h
      case h_2 => cases h
      rename_i id ver off len hsv
      rw [hsv] at hrs
      split at h
      case h_2 => cases h
      rename_i ys hys
      split at h
      case h_2 => cases h
      rename_i sz' es ver' hσ
      split at h
      case isFalse => cases h
      rename_i hb
      obtain ⟨hall, hoff, rfl, rfl, hl, hbd, hvr⟩ := hb
      injection h with h; subst h
      simp only [List.all_eq_true, Bool.and_eq_true, decide_eq_true_eq] at hall
      have hy : ∀ y ∈ ys, y.cells.length = sz' := fun y hm => (hall y hm).2
      obtain ⟨hlen, news, hn1, hn2⟩ := more_sound (P := P) hs hrx hys h0 hy
      have hones := elems_one (sz := sz') hn1 fun y hm => (hall y hm).1
      have hnl : news.length = ys.length * sz' := by rw [hn1.1, flat_length hy]
      obtain ⟨ad, cap, e1, e2, sz'', es', v'', e3, e4, e5⟩ := R_own.1 hrs
      rw [hσ] at e3; simp at e3; obtain ⟨rfl, rfl, rfl⟩ := e3
      obtain ⟨q1, q2⟩ := e5 rfl
      have hid := (List.getElem?_eq_some_iff.1 hσ).1
      rcases hs.obj id _ _ _ hσ with ⟨b, cs, el, fz, r1, r2, r3, r4, r5, r6⟩ | ⟨r1, r2⟩
      case inr => subst r2; simp at hl; omega
      simp only [r1] at q2
      obtain ⟨k1, s1, k2, k3⟩ := q2
      have hs1 : s1 = cs.size := by unfold blockSize at k2; rw [r2] at k2; injection k2 with k2; exact k2.symm
      subst hs1
      have r4d : ∀ x ∈ es.drop off, x.cells.length = sz' := fun x hx => r4 x (List.mem_of_mem_drop hx)
      have hdl : (es.drop off).length = len := by simp; omega
      have r6d : ∀ (j : Nat) p, ((es.drop off).flatMap PV.cells)[j]? = some p → ∃ v, cs[off * sz' + j]? = some v ∧ R g p v := fun j p hp => by
        rw [flat_drop r4 off (by omega), List.getElem?_drop] at hp
        exact r6 _ p hp
      obtain ⟨olds, ho1, ho2⟩ := cells_list (g := g) (f := fun j => cs[off * sz' + j]?) r6d
      have hol : olds.length = len * sz' := by rw [ho2.1, flat_length r4d, hdl]
      have hold : ∀ w', w'.heap = g.w.heap → (Builtin.firstCells ti.size len (.slice ad len cap)).run P w' = .ok olds.toArray w' := by
        intro w' hw'
        rw [htis]
        rcases Nat.eq_zero_or_pos len with hz0 | hz0
        · have : olds = [] := List.eq_nil_of_length_eq_zero (by rw [hol, hz0, Nat.zero_mul])
          subst this; rw [hz0]
          cases ad <;> simp [Builtin.firstCells, loadCells, loadCellsFrom]
        · have k1 := k1 (by omega)
          subst k1
          refine run_firstCells_some w' sz' len _ len cap olds hol fun j v hv => ?_
          rw [cell_heap hw', addr_add_mk]
          simp only [World.cell?, r2]
          simpa using ho1 j v hv
      have hrun := run_append_general (P := P) (w := g.w) (base := ad) (sLen := len) (sCap := cap) (ty := o.type) he hu hti hz hlen (fun w' hw' => by rw [htis]; exact hn2 w' hw') hold (by rw [htib]; exact hbd) (by rw [htib]; exact hb0)
      rw [← e1] at hrun
      have hv1 : ∀ n : Nat, ¬ 1000000 ≤ ver + 1 := fun _ => by omega
      by_cases hle : len + ys.length ≤ cap
      · -- in place
        left
        rw [if_pos hle] at hrun
        have hmul : (off + len) * sz' = off * sz' + len * sz' := Nat.add_mul _ _ _
        have hfit : off * sz' + len * sz' + news.length ≤ cs.size := by
          rw [hnl, ← Nat.add_mul, ← Nat.add_mul]
          exact Nat.le_trans (Nat.mul_le_mul_right _ (by omega)) k3
        have hstore : ∃ w', ((match ad with | some a => storeCells (a.add (len * ti.size)) news.toArray.toList | none => pure ()).run P g.w) = .ok () w' ∧ w'.os = g.w.os ∧ w'.tape = g.w.tape ∧ w'.output = g.w.output ∧ w'.heap.size = g.w.heap.size ∧ (∀ k, k ≠ b → w'.heap[k]? = g.w.heap[k]?) ∧
            w'.heap[b]? = some (.cells ((news.zipIdx 0).foldl (fun cs (x : Value × Nat) => cs.setIfInBounds (off * sz' + len * sz' + x.2) x.1) cs) el fz) := by
          rcases Nat.eq_zero_or_pos cap with hc0 | hc0
          · have : news = [] := List.eq_nil_of_length_eq_zero (by rw [hnl, show ys.length = 0 by omega, Nat.zero_mul])
            subst this
            refine ⟨g.w, ?_, rfl, rfl, rfl, rfl, fun _ _ => rfl, r2⟩
            cases ad <;> simp [storeCells]
          · have k1 := k1 hc0
            subst k1
            obtain ⟨w', f1, f2⟩ := run_storeCells_soft (P := P) (b := b) (o := off * sz' + len * sz') news 0 cs g.w r2 r3 (by simpa using hfit) hones
            refine ⟨w', ?_, f2⟩
            simp only [htis, addr_add_mk]
            simpa using f1
        obtain ⟨w', f1, f2, f3, f4, f5, f6, f7⟩ := hstore
        rw [f1] at hrun
        simp only [Result.andThen_ok] at hrun
        have hget := fun k => foldl_set_get (off * sz' + len * sz') k news 0 cs
        have hsize := (hget 0).1
        have hfl : (es.flatMap PV.cells).length = off * sz' + len * sz' := by rw [flat_length r4, ← hl, hmul]
        have hcells : (∀ x ∈ es ++ ys, x.cells.length = sz') ∧ ∀ (j : Nat) p, ((es ++ ys).flatMap PV.cells)[j]? = some p → ∃ v, ((news.zipIdx 0).foldl (fun cs (x : Value × Nat) => cs.setIfInBounds (off * sz' + len * sz' + x.2) x.1) cs)[j]? = some v ∧ R g p v := by
          refine ⟨fun x hx => (List.mem_append.1 hx).elim (r4 x) (hy x), fun j p hp => ?_⟩
          rw [List.flatMap_append] at hp
          rw [(hget j).2, Nat.add_zero]
          rcases Nat.lt_or_ge j (off * sz' + len * sz') with h1 | h1
          · rw [List.getElem?_append_left (by omega)] at hp
            rw [if_neg (by omega)]
            exact r6 j p hp
          · rw [List.getElem?_append_right (by omega), hfl] at hp
            obtain ⟨v, hv1, hv2⟩ := hn1.get hp
            have hlt := (List.getElem?_eq_some_iff.1 hv1).1
            exact ⟨v, by rw [if_pos (by omega)]; exact hv1, hv2⟩
        have hes : (es ++ ys).length = off + (len + ys.length) := by rw [List.length_append, ← hl]; omega
        have hlecs : (off + (len + ys.length)) * sz' ≤ cs.size := Nat.le_trans (Nat.mul_le_mul_right _ (by omega)) k3
        obtain ⟨u1, u2⟩ := hs.upd (es' := es ++ ys) (ver' := ver + 1) (ob := some b) hσ f2 f3 f4 (by omega) (fun k _ hk => f6 k (fun e => hk (by rw [r1, e]))) (fun b' hb' => by injection hb' with hb'; subst hb'; exact .inl r1) (by omega) (fun e => by omega)
          (.inl ⟨b, _, el, fz, rfl, f7, by rw [hsize]; exact r3, hcells.1, by rw [hsize, hes]; exact hlecs, hcells.2⟩) (fun hv => absurd hv (hv1 0))
        refine ⟨_, _, w', _, by rw [hexec _ hrun]; rfl, .inl rfl, u1, u2, R_own.2 ⟨ad, cap, rfl, hle, sz', es ++ ys, ver + 1, by simp [hid], Nat.le_refl _, fun _ => ⟨by omega, ?_⟩⟩⟩
        have hρ : (g.ρ.set id (some b))[id]? = some (some b) := List.getElem?_set_self (by rw [hs.len]; exact hid)
        simp only [hρ]
        refine ⟨k1, cs.size, ?_, k3⟩
        unfold blockSize
        simp only [f7, hsize]
      · -- a new row
        right
        rw [if_neg hle] at hrun
        have hge := grownCap_ge g.w (len + ys.length) cap e
        obtain ⟨c1, c2, c3⟩ := grown_cells (g := g) (z := z) ho2 hn1 r4d hy hzc (need := len + ys.length) (by omega) hge
        have hes : (es.drop off ++ ys).length = len + ys.length := by rw [List.length_append, hdl]
        obtain ⟨u1, u2⟩ := hs.upd (es' := es.drop off ++ ys) (ver' := ver + 1) (ob := some g.w.heap.size) (w' := { g.w with drawn := g.w.drawn + 1, heap := g.w.heap.push (.cells (olds.toArray ++ news.toArray ++ Builtin.zeroCells z.cells (grownCap g.w (len + ys.length) cap e - (len + ys.length))) e) }) hσ rfl rfl rfl (by simp) (fun k hk _ => by simp only [Array.getElem?_push]; rw [if_neg (by omega)]) (fun b' hb' => by injection hb' with hb'; subst hb'; exact .inr (Nat.le_refl _)) (by omega) (fun e => by omega)
          (.inl ⟨g.w.heap.size, _, e, (0, 0), rfl, by simp, fun j _ => by simp, c2, by rw [c1, hes]; exact Nat.mul_le_mul_right _ hge, c3⟩) (fun hv => absurd hv (hv1 0))
        refine ⟨_, _, _, _, by rw [hexec _ hrun]; rfl, .inl rfl, u1, u2, R_own.2 ⟨_, _, rfl, hge, sz', es.drop off ++ ys, ver + 1, by simp [hid], Nat.le_refl _, fun _ => ⟨by omega, ?_⟩⟩⟩
        have hρ : (g.ρ.set id (some g.w.heap.size))[id]? = some (some g.w.heap.size) := List.getElem?_set_self (by rw [hs.len]; exact hid)
        simp only [hρ]
        refine ⟨fun _ => by simp, (olds.toArray ++ news.toArray ++ Builtin.zeroCells z.cells (grownCap g.w (len + ys.length) cap e - (len + ys.length))).size, by unfold blockSize; simp, ?_⟩
        rw [c1, Nat.zero_add]; exact Nat.le_refl _
    · cases ht
  · cases ht
theorem g_append {c : Call} {s x : Operand} {sz bytes : Nat} (hs : St g) (hf : FR g fr a) (ho : o.op = .call c) (hc : isAppend c = true) (hx : oeqs c.args.toList [s, x] = true) (ht : appendTypes P c.argTypes.toList sz bytes = true)
    (h : ai fr g.σ (.append s x sz bytes) = some (p, σ')) : Gives P g o a p σ' := by
  refine g_appendV none hs hf ho hc hx ht (fun _ _ _ _ h => by cases h) ?_
  rw [← h]
  simp only [ai, appV]
  cases moreA g.σ (aev fr x) with
  | none => rfl
  | some ys =>
    simp only
    split
    · cases aev fr s <;> simp [okVer, verT]
    · rfl
end

end Aw
end Go.Proofs.Ytoliadfdklfmfaa
