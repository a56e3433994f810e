/- Each operation gives what is told: the reading ones. -/
import Derived.Test.YtegjfjckijmgcaaAw4
set_option linter.unusedVariables false
set_option linter.unusedSimpArgs false
namespace Go.Proofs.Ytegjfjckijmgcaa
namespace Aw

/-! ### Lists of cells -/
theorem flat_length {es : List PV} {sz : Nat} (h : ∀ x ∈ es, x.cells.length = sz) : (es.flatMap PV.cells).length = es.length * sz := by
  induction es with
  | nil => simp
  | cons e es ih =>
    rw [List.flatMap_cons, List.length_append, ih fun x hx => h x (List.mem_cons_of_mem _ hx), h e (List.mem_cons_self ..), List.length_cons, Nat.add_mul, Nat.one_mul, Nat.add_comm]
theorem flat_get {es : List PV} {sz : Nat} (h : ∀ x ∈ es, x.cells.length = sz) {i : Nat} {e : PV} (he : es[i]? = some e) {t : Nat} (ht : t < sz) : (es.flatMap PV.cells)[i * sz + t]? = e.cells[t]? := by
  induction es generalizing i with
  | nil => simp at he
  | cons x es ih =>
    have hx := h x (List.mem_cons_self ..)
    rw [List.flatMap_cons]
    cases i with
    | zero =>
      simp at he; subst he
      rw [Nat.zero_mul, Nat.zero_add, List.getElem?_append_left (by omega)]
    | succ i =>
      have he' : es[i]? = some e := by simpa using he
      rw [List.getElem?_append_right (by rw [hx, Nat.add_mul]; omega), hx, show (i + 1) * sz + t - sz = i * sz + t by rw [Nat.add_mul]; omega]
      exact ih (fun y hy => h y (List.mem_cons_of_mem _ hy)) he'
theorem addr_add_add {a : Addr} (h : a.spot = none) (m n : Nat) : (a.add m).add n = a.add (m + n) := by
  unfold Addr.add
  by_cases h1 : m = 0 <;> by_cases h2 : n = 0 <;> simp [h1, h2, Nat.add_assoc]
theorem addr_add_spot {a : Addr} (h : a.spot = none) (m : Nat) : (a.add m).spot = none := by
  unfold Addr.add
  split <;> simp [h]
theorem addr_add_mk (b o n : Nat) : (⟨b, o, none⟩ : Addr).add n = ⟨b, o + n, none⟩ := by
  unfold Addr.add
  split
  · rename_i h; simp [h]
  · rfl
theorem addr_eta {a : Addr} (h : a.spot = none) (n : Nat) : a.add n = ⟨a.block, a.off + n, none⟩ := by
  cases a with
  | mk b o s => simp at h; subst h; exact addr_add_mk b o n

theorem St.block_lt {g : G} (hs : St g) {i b : Nat} (h : g.ρ[i]? = some (some b)) : b < g.w.heap.size := by
  have hi : i < g.σ.length := by rw [← hs.len]; exact (List.getElem?_eq_some_iff.1 h).1
  cases hσ : g.σ[i]? with
  | none => exact absurd hi (by have := List.getElem?_eq_none_iff.1 hσ; omega)
  | some o =>
    cases o with
    | row sz es ver =>
      rcases hs.obj i sz es ver hσ with ⟨b', cs, e, fr, h1, h2, _⟩ | ⟨h1, _⟩
      · rw [h] at h1; simp at h1; subst h1; exact (Array.getElem?_eq_some_iff.1 h2).1
      · rw [h] at h1; simp at h1

/-- The cells behind a pointer are there, and are as told. -/
theorem cellsAt_sound {g : G} (hs : St g) {p : PV} {cs : List PV} {c : Value} (h : cellsAt g.σ p = some cs) (hr : R g p c) :
    ∃ ad : Addr, c = .pointer (some ad) ∧ ad.spot = none ∧ ∀ (j : Nat) q, cs[j]? = some q → ∃ v, g.w.cell? (ad.add j) = some v ∧ R g q v := by
  unfold cellsAt at h
  split at h
  · rename_i ps off
    injection h with h; subst h
    obtain ⟨ad, h1, h2, h3, h4⟩ := R_fptr.1 hr
    refine ⟨ad.add off, h1, addr_add_spot h2 _, fun j q hq => ?_⟩
    rw [addr_add_add h2]
    rw [List.getElem?_drop] at hq
    exact (h4 (off + j) q hq).2
  · rename_i id ver i off
    split at h
    · rename_i sz es ver' hσ
      split at h
      · rename_i hv
        cases he : es[i]? with
        | none => rw [he] at h; simp at h
        | some e =>
          rw [he] at h; simp at h; subst h
          obtain ⟨ad, q0, sz', es', ver'', k1, k2, k3⟩ := R_ptr.1 hr
          rw [hσ] at k1; simp at k1; obtain ⟨rfl, rfl, rfl⟩ := k1
          obtain ⟨q1, b, q2, q3⟩ := k3 hv
          subst q3
          rcases hs.obj id _ _ _ hσ with ⟨b', cs, el, fz, r1, r2, _, r3, r4, r5⟩ | ⟨r1, r2⟩
          · rw [q2] at r1; simp at r1; subst r1
            refine ⟨_, q0, rfl, fun j q hq => ?_⟩
            rw [List.getElem?_drop] at hq
            have hlt : off + j < sz := by
              have := (List.getElem?_eq_some_iff.1 hq).1
              rw [r3 e (List.mem_of_getElem? he)] at this; exact this
            obtain ⟨v, hv1, hv2⟩ := r5 (i * sz + (off + j)) q (by rw [flat_get r3 he hlt]; exact hq)
            refine ⟨v, ?_, hv2⟩
            rw [addr_add_mk]
            simp only [World.cell?, r2]
            rw [Nat.add_assoc]
            simpa using hv1
          · rw [r2] at he; simp at he
      · cases h
    · cases h
  · cases h

/-- What an operation comes to. -/
def Gives (P : Program) (g : G) (o : Oper) (a : Act) (p : PV) (σ' : List AObj) : Prop :=
  ∃ nx v w' ρ', (execOp a.eval o).run P g.w = .ok nx w' ∧ (nx = .value v ∨ (nx = .skip ∧ v = undef)) ∧ St ⟨σ', ρ', w', g.h⟩ ∧ Step g ⟨σ', ρ', w', g.h⟩ ∧ R ⟨σ', ρ', w', g.h⟩ p v

theorem Gives.same {P : Program} {g : G} {o : Oper} {a : Act} {p : PV} {v : Value} (hs : St g) (h : (execOp a.eval o).run P g.w = .ok (.value v) g.w) (hr : R g p v) : Gives P g o a p g.σ :=
  ⟨_, v, g.w, g.ρ, h, .inl rfl, hs, Step.refl g, hr⟩

/-- Only the count of draws has turned. -/
theorem St.drew {g : G} (hs : St g) : St ⟨g.σ, g.ρ, { g.w with drawn := g.w.drawn + 1 }, g.h⟩ ∧ Step g ⟨g.σ, g.ρ, { g.w with drawn := g.w.drawn + 1 }, g.h⟩ := by
  have hst : Step g ⟨g.σ, g.ρ, { g.w with drawn := g.w.drawn + 1 }, g.h⟩ := ⟨rfl, rfl, rfl, rfl, Nat.le_refl _, fun _ _ _ => rfl, fun i b h => .inr ⟨i, h⟩, fun i sz es ver h => ⟨es, ver, h, Nat.le_refl _, fun _ => ⟨Nat.le_refl _, rfl, fun _ _ => rfl⟩⟩⟩
  refine ⟨⟨hs.hidS hst, hs.len, hs.inj, fun i sz es ver h => ?_⟩, hst⟩
  rcases hs.obj i sz es ver h with ⟨b, cs, e, fr, h1, h2, h3, h4, h5, h6⟩ | h'
  · exact .inl ⟨b, cs, e, fr, h1, h2, h3, h4, h5, fun j p hp => let ⟨v, q1, q2⟩ := h6 j p hp; ⟨v, q1, q2.step hst⟩⟩
  · exact .inr h'

section
variable {P : Program} {g : G} {fr : List PV} {a : Act} {o : Oper} {p : PV} {σ' : List AObj}

theorem Rs.get {ps : List PV} {cs : List Value} (h : Rs g ps cs) {j : Nat} {q : PV} (hq : ps[j]? = some q) : ∃ v, cs[j]? = some v ∧ R g q v := by
  have hj : j < cs.length := by rw [h.1]; exact (List.getElem?_eq_some_iff.1 hq).1
  exact ⟨cs[j], List.getElem?_eq_getElem hj, h.2 j q _ hq (List.getElem?_eq_getElem hj)⟩
theorem Rs.drop {ps : List PV} {cs : List Value} (h : Rs g ps cs) (n : Nat) : Rs g (ps.drop n) (cs.drop n) :=
  ⟨by simp [h.1], fun j q v hq hv => h.2 (n + j) q v (by simpa [List.getElem?_drop] using hq) (by simpa [List.getElem?_drop] using hv)⟩
theorem Rs.take {ps : List PV} {cs : List Value} (h : Rs g ps cs) (n : Nat) : Rs g (ps.take n) (cs.take n) :=
  ⟨by simp [h.1], fun j q v hq hv => by
    rw [List.getElem?_take] at hq hv
    split at hq
    · rename_i hj; rw [if_pos hj] at hv; exact h.2 j q v hq hv
    · cases hq⟩
theorem Rs.append {ps qs : List PV} {cs ds : List Value} (h : Rs g ps cs) (k : Rs g qs ds) : Rs g (ps ++ qs) (cs ++ ds) := by
  refine ⟨by simp [h.1, k.1], fun j q v hq hv => ?_⟩
  rcases Nat.lt_or_ge j ps.length with hj | hj
  · rw [List.getElem?_append_left hj] at hq
    rw [List.getElem?_append_left (by rw [h.1]; exact hj)] at hv
    exact h.2 j q v hq hv
  · rw [List.getElem?_append_right hj] at hq
    rw [List.getElem?_append_right (by rw [h.1]; exact hj), h.1] at hv
    exact k.2 _ q v hq hv
theorem R.one {q : PV} {u : Value} (h2 : R g q u) (h1 : q.one = true) : u.oneCell' = true := by
  cases q with
  | val w => rw [R_val] at h2; subst h2; exact h1
  | list => obtain ⟨_, _, rfl, _⟩ := R_list.1 h2; rfl
  | fptr => obtain ⟨_, rfl, _⟩ := R_fptr.1 h2; rfl
  | fn => obtain ⟨_, rfl, _⟩ := R_fn.1 h2; rfl
  | own => obtain ⟨_, _, rfl, _⟩ := R_own.1 h2; rfl
  | ptr => obtain ⟨_, rfl, _⟩ := R_ptr.1 h2; rfl
  | _ => simp [PV.one] at h1
theorem cells_one {v : Value} (h : v.oneCell' = true) : v.cells = #[v] := by cases v <;> first | rfl | simp [Value.oneCell'] at h
theorem PV.one_cells {q : PV} (h : q.one = true) : q.cells = [q] := by cases q <;> first | rfl | simp [PV.one] at h
/-- A value's cells. -/
theorem R.cells {q : PV} {v : Value} (h : R g q v) (hq : q.okc = true) : Rs g q.cells v.cells.toList ∧ ∀ u ∈ v.cells.toList, u.oneCell' = true := by
  by_cases h1 : q.one = true
  · have h2 := h.one h1
    rw [cells_one h2, PV.one_cells h1]
    refine ⟨⟨rfl, fun j r u hr hu => ?_⟩, fun u hu => by simp at hu; subst hu; exact h2⟩
    cases j with
    | zero => simp at hr hu; subst hr; subst hu; exact h
    | succ j => simp at hr
  · cases q with
    | agg ps =>
      obtain ⟨cs, rfl, hcs⟩ := R_agg.1 h
      simp only [PV.okc, List.all_eq_true] at hq
      refine ⟨hcs, fun u hu => ?_⟩
      simp only [Value.cells, List.toList_toArray] at hu
      obtain ⟨j, hj, rfl⟩ := List.getElem_of_mem hu
      have hj' : j < ps.length := by rw [← hcs.1]; exact hj
      exact (hcs.2 j ps[j] cs[j] (List.getElem?_eq_getElem hj') (List.getElem?_eq_getElem hj)).one (hq _ (List.getElem_mem hj'))
    | _ => exact absurd hq h1

/-! ### Operations that read -/
theorem g_mv {x : Operand} (hs : St g) (hf : FR g fr a) (ho : o.op = .move x ∨ o.op = .assign x) : Gives P g o a (aev fr x) g.σ := by
  refine Gives.same hs (v := a.eval x) ?_ (hf.ev x)
  unfold execOp
  rcases ho with h | h <;> simp [h]
theorem g_pick {c x y : Operand} {t : Bool} (hs : St g) (hf : FR g fr a) (ho : o.op = .pick c x y) (hc : aev fr c = .val (.bool t)) : Gives P g o a (if t then aev fr x else aev fr y) g.σ := by
  have h := hf.ev c
  rw [hc, R_val] at h
  refine Gives.same hs (v := if t then a.eval x else a.eval y) ?_ (by cases t <;> simp [hf.ev])
  unfold execOp
  simp [ho, h, asBool]
theorem g_load {n : Nat} {agg : Bool} {t : TypeId} {x : Operand} (hs : St g) (hf : FR g fr a) (ho : o.op = .load t x) (ha : aggIs P t agg = true) (hn : (if agg then sizeIs P t n else n == 1) = true)
    (h : loadA g.σ (aev fr x) n agg = some p) : Gives P g o a p g.σ := by
  unfold loadA at h
  split at h
  · rename_i cs hcs
    obtain ⟨ad, e1, e2, e3⟩ := cellsAt_sound hs hcs (hf.ev x)
    split at h
    · rename_i hle
      cases agg with
      | true =>
        simp only [if_true] at h hn
        injection h with h; subst h
        have hc : ∃ vs : List Value, vs.length = n ∧ (∀ (j : Nat) v, vs[j]? = some v → g.w.cell? (ad.add j) = some v) ∧ Rs g (cs.take n) vs := by
          clear hn ha ho
          induction n with
          | zero => exact ⟨[], rfl, fun j v hv => by simp at hv, ⟨by simp, fun j q v hq => by simp at hq⟩⟩
          | succ n ih =>
            obtain ⟨vs, h1, h2, h3⟩ := ih (by omega)
            obtain ⟨v, hv1, hv2⟩ := e3 n cs[n] (List.getElem?_eq_getElem (by omega))
            refine ⟨vs ++ [v], by simp [h1], fun j u hu => ?_, ?_⟩
            · rcases Nat.lt_or_ge j n with hj | hj
              · rw [List.getElem?_append_left (by omega)] at hu; exact h2 j u hu
              · rw [List.getElem?_append_right (by omega)] at hu
                have : j = n := by
                  have := (List.getElem?_eq_some_iff.1 hu).1
                  simp at this; omega
                subst this
                simp [h1] at hu; subst hu; exact hv1
            · rw [List.take_succ_eq_append_getElem (by omega)]
              exact h3.append ⟨rfl, fun j q u hq hu => by
                cases j with
                | zero => simp at hq hu; subst hq; subst hu; exact hv2
                | succ j => simp at hq⟩
        obtain ⟨vs, h1, h2, h3⟩ := hc
        refine Gives.same hs (v := .agg vs.toArray) ?_ (R_agg.2 ⟨vs, rfl, h3⟩)
        have hl := run_loadCells_list (P := P) g.w ad vs h2
        rw [h1] at hl
        unfold execOp
        simp [ho, e1, Instr.loadAt, Instr.sureAddr, loadVar, aggIs_run ha, sizeIs_run hn, hl]
      | false =>
        simp at h hn
        subst hn
        cases cs with
        | nil => simp at hle
        | cons q cs =>
          simp at h; subst h
          obtain ⟨v, hv1, hv2⟩ := e3 0 q (by simp)
          refine Gives.same hs (v := v) ?_ hv2
          have h0 : ad.add 0 = ad := rfl
          rw [h0] at hv1
          unfold execOp
          simp [ho, e1, Instr.loadAt, Instr.sureAddr, loadVar, aggIs_run ha, hv1]
    · cases h
  · cases h
end

end Aw
end Go.Proofs.Ytegjfjckijmgcaa
