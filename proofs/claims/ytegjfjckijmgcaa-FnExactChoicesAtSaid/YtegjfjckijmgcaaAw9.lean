/- Each operation gives what is told: those that make memory. -/
import Derived.Test.YtegjfjckijmgcaaAw8
set_option linter.unusedVariables false
set_option linter.unusedSimpArgs false
namespace Go.Proofs.Ytegjfjckijmgcaa
namespace Aw

/-- One block more; what was there is as it was. -/
structure Pushed (w w1 : World) (o : Obj) : Prop where
  heap : w1.heap = w.heap.push o
  os : w1.os = w.os
  tape : w1.tape = w.tape
  output : w1.output = w.output

theorem Pushed.old {w w1 : World} {o : Obj} (h : Pushed w w1 o) {b : Nat} (hb : b < w.heap.size) : w1.heap[b]? = w.heap[b]? := by
  rw [h.heap, Array.getElem?_push, if_neg (by omega)]
theorem Pushed.new {w w1 : World} {o : Obj} (h : Pushed w w1 o) : w1.heap[w.heap.size]? = some o := by
  rw [h.heap, Array.getElem?_push, if_pos rfl]

section
variable {g : G}
theorem St.lt (hs : St g) {i b : Nat} (h : g.ρ[i]? = some (some b)) : i < g.σ.length := by
  rw [← hs.len]; exact (List.getElem?_eq_some_iff.1 h).1

/-- A new block that nobody will write again. -/
theorem St.fresh (hs : St g) {w1 : World} {o : Obj} (h : Pushed g.w w1 o) : St ⟨g.σ, g.ρ, w1, g.h⟩ ∧ Step g ⟨g.σ, g.ρ, w1, g.h⟩ ∧ G.frz ⟨g.σ, g.ρ, w1, g.h⟩ g.w.heap.size := by
  have hst : Step g ⟨g.σ, g.ρ, w1, g.h⟩ := by
    refine ⟨rfl, h.os, h.tape, h.output, by show _ ≤ w1.heap.size; rw [h.heap]; simp, fun b hb _ => h.old hb, fun i b hb => .inr ⟨i, hb⟩, fun i sz es ver ho => ⟨es, ver, ho, Nat.le_refl _, fun _ => ⟨Nat.le_refl _, rfl, fun b hb => ?_⟩⟩⟩
    unfold blockSize
    rw [h.old (hs.block_lt hb)]
  refine ⟨⟨hs.hidS hst, hs.len, hs.inj, fun i sz es ver ho => ?_⟩, hst, ?_, fun i hi => ?_, fun hi => ?_⟩
  · rcases hs.obj i sz es ver ho with ⟨b, cs, e, fr, h1, h2, h3, h4, h5, h6⟩ | h'
    · exact .inl ⟨b, cs, e, fr, h1, by show w1.heap[b]? = _; rw [h.old (hs.block_lt h1)]; exact h2, h3, h4, h5, fun j p hp => let ⟨v, q1, q2⟩ := h6 j p hp; ⟨v, q1, q2.step hst⟩⟩
    · exact .inr h'
  · show _ < w1.heap.size; rw [h.heap]; simp
  · have := hs.block_lt hi; omega
  · have := hs.hid.1 _ hi; omega

/-- A new object, in a new block. -/
theorem St.push (hs : St g) {w1 : World} {cs : Array Value} {e : TypeId} {fz : Nat × Nat} {sz : Nat} {es : List PV} (h : Pushed g.w w1 (.cells cs e fz)) (hsoft : ∀ j, j < cs.size → ¬ (fz.1 ≤ j ∧ j < fz.2))
    (hc : ∀ x ∈ es, x.cells.length = sz) (hle : es.length * sz ≤ cs.size) (hcells : ∀ (j : Nat) p, (es.flatMap PV.cells)[j]? = some p → ∃ v, cs[j]? = some v ∧ R g p v) :
    St ⟨g.σ ++ [.row sz es 0], g.ρ ++ [some g.w.heap.size], w1, g.h⟩ ∧ Step g ⟨g.σ ++ [.row sz es 0], g.ρ ++ [some g.w.heap.size], w1, g.h⟩ := by
  have hst : Step g ⟨g.σ ++ [.row sz es 0], g.ρ ++ [some g.w.heap.size], w1, g.h⟩ := by
    refine ⟨rfl, h.os, h.tape, h.output, by show _ ≤ w1.heap.size; rw [h.heap]; simp, fun b hb _ => h.old hb, fun i b hb => ?_, fun i sz' es' ver ho => ?_⟩
    · simp only at hb
      rcases Nat.lt_or_ge i g.ρ.length with hi | hi
      · rw [List.getElem?_append_left hi] at hb; exact .inr ⟨i, hb⟩
      · rw [List.getElem?_append_right hi] at hb
        cases hk : i - g.ρ.length with
        | zero => rw [hk] at hb; simp at hb; exact .inl (by omega)
        | succ k => rw [hk] at hb; simp at hb
    · have hi : i < g.σ.length := (List.getElem?_eq_some_iff.1 ho).1
      refine ⟨es', ver, by show (g.σ ++ _)[i]? = _; rw [List.getElem?_append_left hi]; exact ho, Nat.le_refl _, fun _ => ⟨Nat.le_refl _, by show (g.ρ ++ _)[i]? = _; rw [List.getElem?_append_left (by rw [hs.len]; exact hi)], fun b hb => ?_⟩⟩
      show blockSize w1 b = _
      unfold blockSize
      rw [h.old (hs.block_lt hb)]
  refine ⟨⟨hs.hidS hst, by simp [hs.len], fun i j b hi hj => ?_, fun i sz' es' ver ho => ?_⟩, hst⟩
  · simp only at hi hj
    have cases_ : ∀ {k : Nat}, (g.ρ ++ [some g.w.heap.size])[k]? = some (some b) → (g.ρ[k]? = some (some b) ∧ b < g.w.heap.size) ∨ (k = g.ρ.length ∧ b = g.w.heap.size) := by
      intro k hk
      rcases Nat.lt_or_ge k g.ρ.length with h' | h'
      · rw [List.getElem?_append_left h'] at hk; exact .inl ⟨hk, hs.block_lt hk⟩
      · rw [List.getElem?_append_right h'] at hk
        cases hk' : k - g.ρ.length with
        | zero => rw [hk'] at hk; simp at hk; exact .inr ⟨by omega, by omega⟩
        | succ m => rw [hk'] at hk; simp at hk
    rcases cases_ hi with ⟨h1, h2⟩ | ⟨h1, h2⟩ <;> rcases cases_ hj with ⟨h3, h4⟩ | ⟨h3, h4⟩
    · exact hs.inj i j b h1 h3
    · omega
    · omega
    · omega
  · simp only at ho
    rcases Nat.lt_or_ge i g.σ.length with hi | hi
    · rw [List.getElem?_append_left hi] at ho
      rcases hs.obj i sz' es' ver ho with ⟨b, cs', e', fr, h1, h2, h3, h4, h5, h6⟩ | ⟨h1, h2⟩
      · exact .inl ⟨b, cs', e', fr, by show (g.ρ ++ _)[i]? = _; rw [List.getElem?_append_left (by rw [hs.len]; exact hi)]; exact h1, by show w1.heap[b]? = _; rw [h.old (hs.block_lt h1)]; exact h2, h3, h4, h5, fun j p hp => let ⟨v, q1, q2⟩ := h6 j p hp; ⟨v, q1, q2.step hst⟩⟩
      · exact .inr ⟨by show (g.ρ ++ _)[i]? = _; rw [List.getElem?_append_left (by rw [hs.len]; exact hi)]; exact h1, h2⟩
    · rw [List.getElem?_append_right hi] at ho
      cases hk : i - g.σ.length with
      | zero =>
        rw [hk] at ho; simp at ho; obtain ⟨rfl, rfl, rfl⟩ := ho
        refine .inl ⟨g.w.heap.size, cs, e, fz, ?_, h.new, hsoft, hc, hle, fun j p hp => let ⟨v, q1, q2⟩ := hcells j p hp; ⟨v, q1, q2.step hst⟩⟩
        show (g.ρ ++ _)[i]? = _
        rw [List.getElem?_append_right (by rw [hs.len]; exact hi), hs.len, hk]; rfl
      | succ k => rw [hk] at ho; simp at ho

theorem blockSize_new {w w1 : World} {cs : Array Value} {e : TypeId} {fz : Nat × Nat} (h : Pushed w w1 (.cells cs e fz)) : blockSize w1 w.heap.size = some cs.size := by
  unfold blockSize; rw [h.new]
end

section
variable {P : Program} {g : G} {fr : List PV} {a : Act} {o : Oper} {p : PV} {σ' : List AObj}

theorem pvOf_R (z : Value) : R g (pvOf z) z := by
  cases z with
  | agg cs =>
    refine R_agg.2 ⟨cs.toList, rfl, by simp, fun j q v hq hv => ?_⟩
    simp at hq hv
    obtain ⟨u, h1, rfl⟩ := hq
    rw [h1] at hv; injection hv with hv; subst hv; exact R_val.2 rfl
  | _ => exact R_val.2 rfl
theorem pvOf_cells (z : Value) : (pvOf z).cells = z.cells.toList.map .val := by cases z <;> first | rfl | simp [pvOf, PV.cells, Value.cells]

/-- A new object of one element. -/
theorem gives_box {v : Value} {q : PV} {e : TypeId} (hs : St g) (hrun : (execOp a.eval o).run P g.w = .ok (.value (.pointer (some ⟨g.w.heap.size, 0, none⟩))) { g.w with heap := g.w.heap.push (.cells v.cells e) })
    (hc : Rs g q.cells v.cells.toList) : Gives P g o a (.ptr g.σ.length 0 0 0) (g.σ ++ [.row q.cells.length [q] 0]) := by
  have hp : Pushed g.w { g.w with heap := g.w.heap.push (.cells v.cells e) } (.cells v.cells e (0, 0)) := ⟨rfl, rfl, rfl, rfl⟩
  have hlen : v.cells.size = q.cells.length := by have := hc.1; simpa using this
  obtain ⟨h1, h2⟩ := hs.push (sz := q.cells.length) (es := [q]) hp (fun j _ => by simp) (fun x hx => by simp at hx; subst hx; rfl) (by simp [hlen]) (fun j r hr => by
    simp at hr
    obtain ⟨u, hu1, hu2⟩ := hc.get hr
    exact ⟨u, by simpa using hu1, hu2⟩)
  refine ⟨_, _, _, _, hrun, .inl rfl, h1, h2, R_ptr.2 ⟨_, rfl, q.cells.length, [q], 0, by simp, Nat.le_refl _, fun _ => ⟨by simp, g.w.heap.size, ?_, by simp⟩⟩⟩
  show (g.ρ ++ _)[g.σ.length]? = _
  rw [← hs.len]; simp

theorem g_alloc {t : TypeId} {z : Value} (hs : St g) (ho : o.op = .alloc t) (hz : zeroIs P t z = true) (h : ai fr g.σ (.alloc z) = some (p, σ')) : Gives P g o a p σ' := by
  simp [ai] at h; obtain ⟨rfl, rfl⟩ := h
  refine gives_box (v := z) (q := pvOf z) (e := t) hs ?_ ?_
  · unfold execOp
    simp [ho, Instr.alloc, zeroIs_run hz, newVar, newRow]
  · rw [pvOf_cells]
    refine ⟨by simp, fun j q v hq hv => ?_⟩
    simp at hq hv
    obtain ⟨u, h1, rfl⟩ := hq
    rw [h1] at hv; injection hv with hv; subst hv; exact R_val.2 rfl

theorem g_box {t : TypeId} {x : Operand} {fz : Bool} (hs : St g) (hf : FR g fr a) (ho : o.op = .box t x) (h : ai fr g.σ (.box fz x) = some (p, σ')) : Gives P g o a p σ' := by
  have hr := hf.ev x
  simp only [ai] at h
  split at h
  · rename_i hb
    obtain ⟨hb1, hb2⟩ := hb
    have hc := (hr.cells hb1).1
    have hrun : (execOp a.eval o).run P g.w = .ok (.value (.pointer (some ⟨g.w.heap.size, 0, none⟩))) { g.w with heap := g.w.heap.push (.cells (a.eval x).cells t) } := by
      unfold execOp; simp [ho, Instr.box, newVar, newRow]
    cases fz with
    | false =>
      simp at h; obtain ⟨rfl, rfl⟩ := h
      exact gives_box hs hrun hc
    | true =>
      simp at h; obtain ⟨rfl, rfl⟩ := h
      have hp : Pushed g.w { g.w with heap := g.w.heap.push (.cells (a.eval x).cells t) } (.cells (a.eval x).cells t (0, 0)) := ⟨rfl, rfl, rfl, rfl⟩
      obtain ⟨h1, h2, h3⟩ := hs.fresh hp
      refine ⟨_, _, _, _, hrun, .inl rfl, h1, h2, R_fptr.2 ⟨⟨g.w.heap.size, 0, none⟩, rfl, rfl, h3, fun j q hq => ?_⟩⟩
      obtain ⟨v, k1, k2⟩ := hc.get hq
      refine ⟨?_, v, ?_, k2.step h2⟩
      · have hb := hb2 rfl
        cases hx : aev fr x with
        | agg ps => rw [hx] at hq hb; simp only [PV.cells] at hq; simp only [PV.bel] at hb; exact PV.bels_iff.1 hb q (List.mem_of_getElem? hq)
        | _ =>
          rw [hx] at hq hb
          simp only [PV.cells] at hq
          cases j with
          | zero => simp at hq; subst hq; exact hb
          | succ j => simp at hq
      · rw [addr_add_mk]
        simp only [World.cell?, hp.new]
        simpa using k1
  · cases h

/-- A new row as a slice of the state. -/
theorem gives_row {w1 : World} {cs : Array Value} {e : TypeId} {fz : Nat × Nat} {sz len cap : Nat} {es : List PV} (hs : St g) (hp : Pushed g.w w1 (.cells cs e fz))
    (hrun : (execOp a.eval o).run P g.w = .ok (.value (.slice (some ⟨g.w.heap.size, 0, none⟩) len cap)) w1) (hsoft : ∀ j, j < cs.size → ¬ (fz.1 ≤ j ∧ j < fz.2))
    (hc : ∀ x ∈ es, x.cells.length = sz) (hlen : es.length = len) (hcap : len ≤ cap) (hle : cap * sz ≤ cs.size) (hcells : ∀ (j : Nat) p, (es.flatMap PV.cells)[j]? = some p → ∃ v, cs[j]? = some v ∧ R g p v) :
    Gives P g o a (.own g.σ.length 0 0 len) (g.σ ++ [.row sz es 0]) := by
  obtain ⟨h1, h2⟩ := hs.push (sz := sz) (es := es) hp hsoft hc (Nat.le_trans (Nat.mul_le_mul_right _ (by omega)) hle) hcells
  refine ⟨_, _, _, _, hrun, .inl rfl, h1, h2, R_own.2 ⟨_, cap, rfl, hcap, sz, es, 0, by simp, Nat.le_refl _, fun _ => ⟨by omega, ?_⟩⟩⟩
  have hρ : (g.ρ ++ [some g.w.heap.size])[g.σ.length]? = some (some g.w.heap.size) := by rw [← hs.len]; simp
  simp only [hρ]
  exact ⟨fun _ => by simp, cs.size, blockSize_new hp, by rw [Nat.zero_add]; exact hle⟩

theorem replicate_cells {z : PV} {n j : Nat} {q : PV} (h : ((List.replicate n z).flatMap PV.cells)[j]? = some q) : z.cells[j % z.cells.length]? = some q ∧ j < n * z.cells.length := by
  induction n generalizing j with
  | zero => simp at h
  | succ n ih =>
    rw [List.replicate_succ, List.flatMap_cons] at h
    rcases Nat.lt_or_ge j z.cells.length with hj | hj
    · rw [List.getElem?_append_left hj] at h
      rw [Nat.mod_eq_of_lt hj, Nat.add_mul]
      exact ⟨h, by omega⟩
    · rw [List.getElem?_append_right hj] at h
      obtain ⟨h1, h2⟩ := ih h
      rw [Nat.mod_eq_sub_mod hj, Nat.add_mul]
      exact ⟨h1, by omega⟩

theorem g_make {t e : TypeId} {l c : Operand} {sz bytes : Nat} {z : Value} (hs : St g) (hf : FR g fr a) (ho : o.op = .makeSlice t l c) (hu : P.underlying t = some (.slice e)) (hz : sizeIs P e sz = true) (hb : bytesIs P e bytes = true) (hzero : zeroIs P e z = true)
    (h0 : 0 < sz) (hcells : (pvOf z).cells.length = sz) (h : ai fr g.σ (.make l c sz bytes z) = some (p, σ')) : Gives P g o a p σ' := by
  have hl := hf.ev l
  have hc := hf.ev c
  simp only [ai] at h
  split at h
  · rename_i n m hn hm
    rw [hn, R_val] at hl
    rw [hm, R_val] at hc
    split at h
    · rename_i hbd
      obtain ⟨hb1, hb2, hb3, hb4⟩ := hbd
      simp at h; obtain ⟨rfl, rfl⟩ := h
      obtain ⟨ti, hti, hby⟩ := bytesIs_run hb
      have hwn : IntKind.i64.wrap n = n := by unfold IntKind.wrap; simp [IntKind.signed, IntKind.bits]; omega
      have hwm : IntKind.i64.wrap m = m := by unfold IntKind.wrap; simp [IntKind.signed, IntKind.bits]; omega
      have hbm : ¬ ((bytes : Int) * m > 2 ^ 48) := by
        rw [Int.mul_comm]; simpa using hb3
      have hz2 : (pvOf z).cells.length = z.cells.size := by rw [pvOf_cells]; simp
      refine gives_row (cap := m.toNat) (cs := if m.toNat * sz = 0 then #[] else (Array.range (m.toNat * sz)).map (z.cells[· % z.cells.size]!)) (e := e) (fz := (0, 0)) hs (w1 := { g.w with heap := g.w.heap.push (.cells (if m.toNat * sz = 0 then #[] else (Array.range (m.toNat * sz)).map (z.cells[· % z.cells.size]!)) e) }) ⟨rfl, rfl, rfl, rfl⟩ ?_ (fun j _ => by simp) (fun x hx => by rw [(List.mem_replicate.1 hx).2, hcells]) (by simp) (by omega) ?_ ?_
      · unfold execOp
        have hm0 : ¬ (m < 0) := by omega
        have hn0 : ¬ (n < 0) := by omega
        have hnm : ¬ (m < n) := by omega
        have hbm' : ¬ (281474976710656 < (bytes : Int) * m) := by rw [Int.mul_comm]; omega
        have hr0 : Array.range 0 = #[] := rfl
        by_cases hm1 : m.toNat * sz = 0
        · simp [hr0, ho, hl, hc, Instr.makeSlice, run_underlying hu, asInt, asIntOf, typeInfo, hti, hby, hwn, hwm, hm0, hn0, hnm, hbm', sizeIs_run hz, hm1, newRow]
        · simp [ho, hl, hc, Instr.makeSlice, run_underlying hu, asInt, asIntOf, typeInfo, hti, hby, hwn, hwm, hm0, hn0, hnm, hbm', sizeIs_run hz, hm1, newRow, zeroIs_run hzero]
      · split
        · omega
        · simp
      · intro j q hq
        obtain ⟨h1, h2⟩ := replicate_cells hq
        rw [hcells] at h1 h2
        have hmn : n.toNat * sz ≤ m.toNat * sz := Nat.mul_le_mul_right _ (by omega)
        rw [if_neg (by omega)]
        refine ⟨z.cells[j % z.cells.size]!, ?_, ?_⟩
        · simp
          refine ⟨j, ?_, rfl⟩
          have hj : j < m.toNat * sz := Nat.lt_of_lt_of_le h2 hmn
          simp [hj]
        · rw [pvOf_cells] at h1
          have hsz : z.cells.size = sz := by omega
          have hlt : j % z.cells.size < z.cells.size := Nat.mod_lt _ (by omega)
          rw [hsz] at hlt ⊢
          simp at h1
          obtain ⟨u, h3, rfl⟩ := h1
          rw [R_val]
          simp [getElem!_def, h3]
    · cases h
  · cases h


theorem setAll_length : ∀ (r : List (Nat × PV)) (l : List PV), (setAll l r).length = l.length
  | [], l => rfl
  | (i, q) :: r, l => by rw [setAll, setAll_length r]; simp

theorem flat_at {es : List PV} {sz : Nat} (h0 : 0 < sz) (h : ∀ x ∈ es, x.cells.length = sz) (k : Nat) : (es.flatMap PV.cells)[k]? = (es[k / sz]?).bind fun e => e.cells[k % sz]? := by
  cases he : es[k / sz]? with
  | some e =>
    have := flat_get h he (Nat.mod_lt k h0)
    rw [Nat.mul_comm, Nat.div_add_mod] at this
    rw [this]; rfl
  | none =>
    have hk := List.getElem?_eq_none_iff.1 he
    rw [List.getElem?_eq_none]
    · rfl
    · rw [flat_length h]
      exact Nat.le_trans (Nat.mul_le_mul_right _ hk) (Nat.div_mul_le_self ..)
theorem foldl_set_get (b k : Nat) : ∀ (vs : List Value) (off : Nat) (c : Array Value),
    ((vs.zipIdx off).foldl (fun cs (x : Value × Nat) => cs.setIfInBounds (b + x.2) x.1) c).size = c.size ∧
    ((vs.zipIdx off).foldl (fun cs (x : Value × Nat) => cs.setIfInBounds (b + x.2) x.1) c)[k]? = if b + off ≤ k ∧ k < b + off + vs.length ∧ k < c.size then vs[k - (b + off)]? else c[k]?
  | [], off, c => by
    refine ⟨rfl, ?_⟩
    rw [if_neg (by simp; omega)]; rfl
  | v :: vs, off, c => by
    obtain ⟨h1, h2⟩ := foldl_set_get b k vs (off + 1) (c.setIfInBounds (b + off) v)
    rw [List.zipIdx_cons, List.foldl_cons]
    refine ⟨by rw [h1]; simp, ?_⟩
    rw [h2]
    simp only [Array.size_setIfInBounds, List.length_cons]
    by_cases hk : k = b + off
    · subst hk
      rw [if_neg (by omega)]
      by_cases hc : b + off < c.size
      · rw [if_pos (by omega)]
        simp [hc]
      · rw [if_neg (by omega)]
        simp [Array.getElem?_eq_none (Nat.le_of_not_lt hc)]
        omega
    · have hne : b + off ≠ k := fun e => hk e.symm
      by_cases hr : b + (off + 1) ≤ k ∧ k < b + (off + 1) + vs.length ∧ k < c.size
      · rw [if_pos hr, if_pos (by omega), show k - (b + off) = (k - (b + (off + 1))) + 1 by omega, List.getElem?_cons_succ]
      · rw [if_neg hr, if_neg (by omega), Array.getElem?_setIfInBounds_ne hne]

/-- One element of a row laid anew. -/
theorem set_cells {sz i : Nat} {es : List PV} {q : PV} {cs cs' : Array Value} {u : List Value} (h0 : 0 < sz) (hes : ∀ x ∈ es, x.cells.length = sz) (hi : i < es.length) (hq : q.cells.length = sz) (hu : Rs g q.cells u)
    (hc : ∀ (j : Nat) p, (es.flatMap PV.cells)[j]? = some p → ∃ v, cs[j]? = some v ∧ R g p v)
    (hcs : ∀ k : Nat, cs'[k]? = if i * sz ≤ k ∧ k < i * sz + sz ∧ k < cs.size then u[k - i * sz]? else cs[k]?) :
    (∀ x ∈ es.set i q, x.cells.length = sz) ∧ ∀ (j : Nat) p, ((es.set i q).flatMap PV.cells)[j]? = some p → ∃ v, cs'[j]? = some v ∧ R g p v := by
  have hall : ∀ x ∈ es.set i q, x.cells.length = sz := fun x hx => by
    rcases List.mem_or_eq_of_mem_set hx with h | h
    · exact hes x h
    · rw [h, hq]
  refine ⟨hall, fun j p hp => ?_⟩
  rw [flat_at h0 hall] at hp
  by_cases hj : j / sz = i
  · subst hj
    rw [List.getElem?_set_self hi] at hp
    simp only [Option.bind_some] at hp
    obtain ⟨v, hv1, hv2⟩ := hu.get hp
    have hm := Nat.div_add_mod j sz
    have hlt := Nat.mod_lt j h0
    rw [Nat.mul_comm] at hm
    have hjc : j < cs.size := by
      have hfl : (es.flatMap PV.cells).length = es.length * sz := flat_length hes
      have hle : j / sz * sz + sz ≤ es.length * sz := by rw [← Nat.succ_mul]; exact Nat.mul_le_mul_right _ hi
      have hjl : j < (es.flatMap PV.cells).length := by omega
      obtain ⟨v', hv', _⟩ := hc j _ (List.getElem?_eq_getElem hjl)
      exact (Array.getElem?_eq_some_iff.1 hv').1
    refine ⟨v, ?_, hv2⟩
    rw [hcs, if_pos ⟨by omega, by omega, hjc⟩, show j - j / sz * sz = j % sz by omega]
    exact hv1
  · rw [List.getElem?_set_ne (fun e => hj e.symm), ← flat_at h0 hes] at hp
    obtain ⟨v, hv1, hv2⟩ := hc j p hp
    refine ⟨v, ?_, hv2⟩
    rw [hcs, if_neg]
    · exact hv1
    · intro ⟨h1, h2, _⟩
      apply hj
      have hle : sz * i ≤ j := by rw [Nat.mul_comm]; exact h1
      exact Nat.div_eq_of_lt_le (by omega) (by rw [Nat.add_mul]; omega)

/-- A row is filled part by part: what the machine's cells are. -/
theorem fill_sound {sz len : Nat} (h0 : 0 < sz) : ∀ (ps : List (Nat × Value)) (qs : List (Nat × PV)) (es : List PV) (cs : Array Value), ps.length = qs.length →
    (∀ (j : Nat) (u : Nat × Value) (q : Nat × PV), ps[j]? = some u → qs[j]? = some q → u.1 = q.1 ∧ q.1 < len ∧ Rs g q.2.cells u.2.cells.toList ∧ q.2.cells.length = sz) →
    es.length = len → cs.size = len * sz → (∀ x ∈ es, x.cells.length = sz) → (∀ (j : Nat) p, (es.flatMap PV.cells)[j]? = some p → ∃ v, cs[j]? = some v ∧ R g p v) →
    ∃ cs', Instr.fill (fun i => some (i * sz, sz)) cs ps = some cs' ∧ cs'.size = len * sz ∧ (∀ x ∈ setAll es qs, x.cells.length = sz) ∧ (∀ (j : Nat) p, ((setAll es qs).flatMap PV.cells)[j]? = some p → ∃ v, cs'[j]? = some v ∧ R g p v)
  | [], [], es, cs, _, _, _, hcs, hsz, hc => ⟨cs, rfl, hcs, hsz, hc⟩
  | [], _ :: _, _, _, h, _, _, _, _, _ => by simp at h
  | _ :: _, [], _, _, h, _, _, _, _, _ => by simp at h
  | (i, u) :: ps, (k, q) :: qs, es, cs, hl, hp, hes, hcs, hsz, hc => by
    obtain ⟨hik, hlt, hr, hq⟩ := hp 0 (i, u) (k, q) rfl rfl
    simp only at hik hlt hr hq
    subst hik
    have hul : u.cells.size = sz := by have := hr.1; simp at this; omega
    have hbound : i * sz + sz ≤ len * sz := by rw [← Nat.succ_mul]; exact Nat.mul_le_mul_right _ hlt
    have hf := fun k => foldl_set_get (i * sz) k u.cells.toList 0 cs
    have hsize := (hf 0).1
    obtain ⟨s1, s2⟩ := set_cells (g := g) (i := i) (sz := sz) (cs' := (u.cells.toList.zipIdx 0).foldl (fun cs (x : Value × Nat) => cs.setIfInBounds (i * sz + x.2) x.1) cs) h0 hsz (show i < es.length by omega) hq hr hc (fun k => by
      rw [(hf k).2, Nat.add_zero]; simp [hul])
    obtain ⟨cs', f1, f2, f3, f4⟩ := fill_sound h0 ps qs (es.set i q) _ (by simpa using hl) (fun j u' q' h1 h2 => hp (j + 1) u' q' (by simpa using h1) (by simpa using h2)) (by simpa using hes) (by rw [hsize]; exact hcs) s1 s2
    refine ⟨cs', ?_, f2, f3, f4⟩
    rw [← f1]
    simp only [Instr.fill]
    rw [if_neg (by simp [hul]; omega)]
    congr 1
    rw [← Array.foldl_toList]
    congr 1
    simp

end

end Aw
end Go.Proofs.Ytegjfjckijmgcaa
