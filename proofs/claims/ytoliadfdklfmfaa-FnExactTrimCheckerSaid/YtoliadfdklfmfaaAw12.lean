/- Each operation gives what is told: literals, structs put together, strings and bytes; all of them at once. -/
import Derived.Test.YtoliadfdklfmfaaAwB
set_option linter.unusedVariables false
set_option linter.unusedSimpArgs false
namespace Go.Proofs.Ytoliadfdklfmfaa
namespace Aw
section
variable {P : Program} {g : G} {fr : List PV} {a : Act} {o : Oper} {p : PV} {σ' : List AObj}

theorem bels_cells {n : Nat} {q : PV} (h : q.bel n = true) : ∀ r ∈ q.cells, r.bel n = true := by
  cases q with
  | agg ps => intro r hr; exact PV.bels_iff.1 h r hr
  | _ => intro r hr; simp only [PV.cells, List.mem_singleton] at hr; subst hr; exact h

theorem g_lits {t e : TypeId} {fz : Bool} {sz len : Nat} {z : Value} {ps : Array (Nat × Operand)} {ps' : List (Nat × Operand)} (hs : St g) (hf : FR g fr a) (ho : o.op = .buildSlice t len ps) (hps : ps.toList = ps') (hl : len ≤ 16777216) (h0 : 0 < sz) (hls : len * sz ≤ 16777216)
    (hz : (pvOf z).cells.length = sz) (hu : P.underlying t = some (.slice e)) (hsz : sizeIs P e sz = true) (hzero : zeroIs P e z = true) (h : ai fr g.σ (.lits fz sz len z ps') = some (p, σ')) : Gives P g o a p σ' := by
  simp only [ai] at h
  split at h
  · rename_i hb
    obtain ⟨hb1, hb2⟩ := hb
    simp only [List.all_eq_true, Bool.and_eq_true, decide_eq_true_eq] at hb2
    have hzs : z.cells.size = sz := by rw [← hz, pvOf_cells]; simp
    have hcells0 : ∀ x ∈ List.replicate len (pvOf z), x.cells.length = sz := fun x hx => by rw [(List.mem_replicate.1 hx).2, hz]
    obtain ⟨cs', f1, f2, f3, f4⟩ := fill_sound (g := g) (sz := sz) (len := len) h0 (ps'.map fun q => (q.1, a.eval q.2)) (ps'.map fun q => (q.1, aev fr q.2)) (List.replicate len (pvOf z)) ((Array.range (len * sz)).map (z.cells[· % z.cells.size]!)) (by simp)
      (fun j u q hu hq => by
        simp at hu hq
        obtain ⟨i, x, h1, rfl⟩ := hu
        obtain ⟨i', x', h2, rfl⟩ := hq
        rw [h1] at h2; injection h2 with h2; injection h2 with h2 h3; subst h2; subst h3
        obtain ⟨⟨k1, k2⟩, k3⟩ := hb2 (i, x) (List.mem_of_getElem? h1)
        exact ⟨rfl, k3, ((hf.ev x).cells k1).1, k2⟩) (by simp) (by simp) hcells0 (fun j q hq => by
        obtain ⟨h1, h2⟩ := replicate_cells hq
        rw [hz] at h1 h2
        have hlt : j % sz < z.cells.size := by rw [hzs]; exact Nat.mod_lt _ h0
        rw [pvOf_cells] at h1
        simp at h1
        obtain ⟨u, h3, rfl⟩ := h1
        refine ⟨u, ?_, R_val.2 rfl⟩
        simp
        refine ⟨j, by simp [h2], ?_⟩
        rw [hzs]; simp [getElem!_def, h3])
    have hrun : (execOp a.eval o).run P g.w = .ok (.value (.slice (some ⟨g.w.heap.size, 0, none⟩) len len)) { g.w with heap := g.w.heap.push (.cells cs' e) } := by
      unfold execOp
      have hno : ¬ (len * sz > 16777216) := by omega
      have hfill : Instr.fill (fun i => some (i * sz, sz)) ((Array.range (len * sz)).map (z.cells[· % z.cells.size]!)) (ps.toList.map fun (i, x) => (i, a.eval x)) = some cs' := by rw [hps]; exact f1
      by_cases hlz : len * sz = 0
      · have hr0 : Array.range 0 = #[] := rfl
        rw [hlz, hr0] at hfill
        simp at hfill
        simp [ho, Instr.buildSlice, run_underlying hu, sizeIs_run hsz, hlz, hr0, hfill, newRow]
      · simp at hfill
        simp [ho, Instr.buildSlice, run_underlying hu, sizeIs_run hsz, hno, hlz, zeroIs_run hzero, hfill, newRow]
    cases fz with
    | false =>
      simp at h; obtain ⟨rfl, rfl⟩ := h
      refine gives_row (e := e) (fz := (0, 0)) hs ?_ hrun (fun j _ => by simp) f3 hb1 (Nat.le_refl _) (by rw [f2]; exact Nat.le_refl _) f4
      exact ⟨rfl, rfl, rfl, rfl⟩
    | true =>
      simp only [if_true, Option.some.injEq] at h
      have hp : Pushed g.w { g.w with heap := g.w.heap.push (.cells cs' e) } (.cells cs' e (0, 0)) := ⟨rfl, rfl, rfl, rfl⟩
      obtain ⟨h1, h2, h3⟩ := hs.fresh hp
      split at h
      · rename_i hb3
        injection h with e1 e2; subst e1; subst e2
        have hpure := PV.bels_iff.1 hb3
        refine ⟨_, _, _, _, hrun, .inl rfl, h1, h2, R_list.2 ⟨_, len, by rw [hb1], ⟨by omega, fun h => by cases h⟩, by omega, fun _ => hb1.symm, fun x hx => ⟨hpure x hx, f3 x hx⟩, fun _ => ⟨⟨g.w.heap.size, 0, none⟩, rfl, rfl, h3, fun j q hq => ?_⟩⟩⟩
        obtain ⟨v, k1, k2⟩ := f4 j q hq
        refine ⟨v, ?_, k2.step h2⟩
        rw [addr_add_mk]
        simp only [World.cell?, hp.new]
        simpa using k1
      · injection h with e1 e2; subst e1; subst e2
        refine ⟨_, _, _, _, hrun, .inl rfl, h1, h2, R_tl.2 ⟨_, len, by rw [hb1], ⟨by omega, rfl⟩, f3, fun _ => ⟨⟨g.w.heap.size, 0, none⟩, rfl, rfl, h3, fun j q hq => ?_⟩⟩⟩
        obtain ⟨v, k1, k2⟩ := f4 j q hq
        refine ⟨v, ?_, k2.step h2⟩
        rw [addr_add_mk]
        simp only [World.cell?, hp.new]
        simpa using k1
  · cases h

/-- A part laid into a struct's cells. -/
theorem putParts_sound {place : Nat → Option (Nat × Nat)} (hf : FR g fr a) : ∀ (ps : List (Nat × Operand)) (qs : List (Nat × Nat × Operand)) (cs : List PV) (us : Array Value) (cs' : List PV), ps.length = qs.length →
    (∀ (j : Nat) (u : Nat × Operand) (q : Nat × Nat × Operand), ps[j]? = some u → qs[j]? = some q → u.2 = q.2.2 ∧ place u.1 = some (q.1, q.2.1)) → Rs g cs us.toList → putParts fr cs qs = some cs' →
    ∃ us', Instr.fill place us (ps.map fun q => (q.1, a.eval q.2)) = some us' ∧ Rs g cs' us'.toList
  | [], [], cs, us, cs', _, _, hr, h => by simp [putParts] at h; subst h; exact ⟨us, rfl, hr⟩
  | [], _ :: _, _, _, _, h, _, _, _ => by simp at h
  | _ :: _, [], _, _, _, h, _, _, _ => by simp at h
  | (i, x) :: ps, (off, n, y) :: qs, cs, us, cs', hl, hp, hr, h => by
    obtain ⟨h1, h2⟩ := hp 0 (i, x) (off, n, y) rfl rfl
    simp only at h1 h2
    subst h1
    simp only [putParts] at h
    split at h
    · rename_i hb
      simp only [Bool.and_eq_true, decide_eq_true_eq] at hb
      obtain ⟨⟨hb1, hb2⟩, hb3⟩ := hb
      have hc := ((hf.ev x).cells hb1).1
      have hcl : (a.eval x).cells.size = n := by have := hc.1; simp at this; omega
      have hul : us.size = cs.length := by simpa using hr.1
      have hget := fun k => foldl_set_get off k (a.eval x).cells.toList 0 us
      have hsize := (hget 0).1
      have hr' : Rs g (cs.take off ++ (aev fr x).cells ++ cs.drop (off + n)) (((a.eval x).cells.toList.zipIdx 0).foldl (fun cs (x : Value × Nat) => cs.setIfInBounds (off + x.2) x.1) us).toList := by
        refine ⟨by simp [hsize]; omega, fun j q v hq hv => ?_⟩
        rw [Array.getElem?_toList, (hget j).2, Nat.add_zero] at hv
        simp only [Array.length_toList, hcl] at hv
        rcases Nat.lt_or_ge j off with k1 | k1
        · rw [List.append_assoc, List.getElem?_append_left (by simp; omega), List.getElem?_take, if_pos k1] at hq
          rw [if_neg (by omega)] at hv
          exact hr.2 j q v hq (by simpa using hv)
        · rcases Nat.lt_or_ge j (off + n) with k2 | k2
          · rw [List.append_assoc, List.getElem?_append_right (by simp; omega), List.getElem?_append_left (by simp; omega)] at hq
            rw [if_pos (by omega)] at hv
            refine hc.2 (j - off) q v ?_ hv
            have : (cs.take off).length = off := by simp; omega
            rw [this] at hq; exact hq
          · rw [List.getElem?_append_right (by simp; omega), List.getElem?_drop] at hq
            rw [if_neg (by omega)] at hv
            refine hr.2 j q v ?_ (by simpa using hv)
            have : (cs.take off ++ (aev fr x).cells).length = off + n := by simp; omega
            rw [this] at hq
            rw [show off + n + (j - (off + n)) = j by omega] at hq; exact hq
      obtain ⟨us', k1, k2⟩ := putParts_sound hf ps qs _ _ cs' (by simpa using hl) (fun j u q q1 q2 => hp (j + 1) u q (by simpa using q1) (by simpa using q2)) hr' h
      refine ⟨us', ?_, k2⟩
      rw [← k1, List.map_cons]
      simp only [Instr.fill, h2]
      rw [if_neg (by simp [hcl]; omega)]
      congr 1
      rw [← Array.foldl_toList]
      congr 1
      simp
    · cases h

theorem cellsOfZero_eq {z : List Value} {v : Value} (h : cellsOfZero z v = true) : v = .agg z.toArray := by
  unfold cellsOfZero at h
  split at h
  · rename_i cs
    have := zeqs_eq h
    rw [← this]
  · cases h

theorem partSizes_spec {fs : Array Field} : ∀ {ps : List (Nat × Operand)} {qs : List (Nat × Nat × Operand)}, partSizes P fs ps qs = true → ps.length = qs.length ∧ ∀ (j : Nat) (u : Nat × Operand) (q : Nat × Nat × Operand), ps[j]? = some u → qs[j]? = some q → u.2 = q.2.2 ∧ ∃ f, fs[u.1]? = some f ∧ f.offset = q.1 ∧ sizeIs P f.type q.2.1 = true
  | [], [], _ => ⟨rfl, fun j u q h => by simp at h⟩
  | [], _ :: _, h => by simp [partSizes] at h
  | _ :: _, [], h => by simp [partSizes] at h
  | (i, x) :: ps, (off, n, y) :: qs, h => by
    simp only [partSizes, Bool.and_eq_true] at h
    obtain ⟨⟨h1, h2⟩, h3⟩ := h
    obtain ⟨k1, k2⟩ := partSizes_spec h3
    refine ⟨by simp [k1], fun j u q hu hq => ?_⟩
    cases j with
    | zero =>
      simp at hu hq; subst hu; subst hq
      refine ⟨oeq_eq h1, ?_⟩
      split at h2
      · rename_i f hf
        simp at h2
        exact ⟨f, hf, h2.1, h2.2⟩
      · cases h2
    | succ j => exact k2 j u q (by simpa using hu) (by simpa using hq)
theorem partSizesA_spec {e sz : Nat} : ∀ {ps : List (Nat × Operand)} {qs : List (Nat × Nat × Operand)}, partSizesA e sz ps qs = true → ps.length = qs.length ∧ ∀ (j : Nat) (u : Nat × Operand) (q : Nat × Nat × Operand), ps[j]? = some u → qs[j]? = some q → u.2 = q.2.2 ∧ u.1 * sz = q.1 ∧ q.2.1 = sz
  | [], [], _ => ⟨rfl, fun j u q h => by simp at h⟩
  | [], _ :: _, h => by simp [partSizesA] at h
  | _ :: _, [], h => by simp [partSizesA] at h
  | (i, x) :: ps, (off, n, y) :: qs, h => by
    simp only [partSizesA, Bool.and_eq_true, beq_iff_eq] at h
    obtain ⟨⟨⟨h1, h2⟩, h3⟩, h4⟩ := h
    obtain ⟨k1, k2⟩ := partSizesA_spec h4
    refine ⟨by simp [k1], fun j u q hu hq => ?_⟩
    cases j with
    | zero => simp at hu hq; subst hu; subst hq; exact ⟨oeq_eq h1, h2, h3⟩
    | succ j => exact k2 j u q (by simpa using hu) (by simpa using hq)

theorem run_places {fs : Array Field} {l : List (Nat × Nat)} (w : World) (h : fs.toList.mapM (fun f => (P.info? f.type).map fun i => (f.offset, i.size)) = some l) : (fs.mapM fun f => do pure (f.offset, ← sizeOf f.type) : Sem (Array (Nat × Nat))).run P w = .ok l.toArray w := by
  rw [Array.mapM_eq_mapM_toList]
  have key : ∀ (fl : List Field) (l : List (Nat × Nat)), fl.mapM (fun f => (P.info? f.type).map fun i => (f.offset, i.size)) = some l → (fl.mapM fun f => do pure (f.offset, ← sizeOf f.type) : Sem (List (Nat × Nat))).run P w = .ok l w := by
    intro fl
    induction fl with
    | nil => intro l hl; simp at hl; subst hl; simp
    | cons f fl ih =>
      intro l hl
      rw [List.mapM_cons] at hl
      cases hi : P.info? f.type with
      | none => rw [hi] at hl; simp at hl
      | some i =>
        rw [hi] at hl
        cases hr : fl.mapM (fun f => (P.info? f.type).map fun i => (f.offset, i.size)) with
        | none => simp at hl; simp [hr] at hl
        | some r =>
          rw [hr] at hl
          simp at hl
          subst hl
          have := ih r hr
          rw [List.mapM_cons]
          simp only [Sem.run_bind, sizeOf, typeInfo, run_program, Result.andThen_ok, hi, Sem.run_pure]
          simp only [Sem.run_bind, sizeOf, typeInfo, run_program, Result.andThen_ok, Sem.run_pure] at this
          rw [this]; rfl
  rw [Sem.run_map, key fs.toList l h]; rfl

theorem placesOf_get {fs : Array Field} {l : List (Nat × Nat)} (h : placesOf P fs = some l) {i : Nat} {f : Field} {n : Nat} (hf : fs[i]? = some f) (hn : sizeIs P f.type n = true) : l[i]? = some (f.offset, n) := by
  unfold placesOf at h
  have key : ∀ (fl : List Field) (l : List (Nat × Nat)) (i : Nat), fl.mapM (fun f => (P.info? f.type).map fun i => (f.offset, i.size)) = some l → fl[i]? = some f → l[i]? = some (f.offset, n) := by
    intro fl
    induction fl with
    | nil => intro l i _ h; simp at h
    | cons f' fl ih =>
      intro l i hl hi
      rw [List.mapM_cons] at hl
      cases hq : P.info? f'.type with
      | none => rw [hq] at hl; simp at hl
      | some q =>
        rw [hq] at hl
        cases hr : fl.mapM (fun f => (P.info? f.type).map fun i => (f.offset, i.size)) with
        | none => simp at hl; simp [hr] at hl
        | some r =>
          rw [hr] at hl
          simp at hl
          subst hl
          cases i with
          | zero =>
            simp at hi; subst hi
            unfold sizeIs at hn
            rw [hq] at hn
            simp at hn; subst hn; simp
          | succ i => simpa using ih r i hr (by simpa using hi)
  exact key _ l i h (by simpa using hf)

theorem g_build {t : TypeId} {zero : List Value} {ps : Array (Nat × Operand)} {ps' : List (Nat × Nat × Operand)} (hs : St g) (hf : FR g fr a) (ho : o.op = .build t ps)
    (hz : ∃ i z, P.info? t = some i ∧ i.zero = some z ∧ cellsOfZero zero z = true) (hone : ∀ v ∈ zero, v.oneCell' = true)
    (hu : (∃ fs l, P.underlying t = some (.struct fs) ∧ placesOf P fs = some l ∧ partSizes P fs ps.toList ps' = true) ∨ (∃ n e i, P.underlying t = some (.array n e) ∧ P.info? e = some i ∧ partSizesA e i.size ps.toList ps' = true))
    (h : ai fr g.σ (.build zero ps') = some (p, σ')) : Gives P g o a p σ' := by
  simp only [ai] at h
  cases hq : putParts fr (zero.map .val) ps' with
  | none => rw [hq] at h; simp at h
  | some cs' =>
    rw [hq] at h; simp at h; obtain ⟨rfl, rfl⟩ := h
    obtain ⟨i, z, hi, hz1, hz2⟩ := hz
    have hz3 := cellsOfZero_eq hz2
    subst hz3
    have hzv : ∀ w, (zeroValue t).run P w = .ok (.agg zero.toArray) w := fun w => by simp [zeroValue, typeInfo, hi, hz1]
    have hr0 : Rs g (zero.map .val) zero.toArray.toList := by
      refine ⟨by simp, fun j q v hq hv => ?_⟩
      simp at hq hv
      obtain ⟨u, h1, rfl⟩ := hq
      rw [h1] at hv; injection hv with hv; subst hv; exact R_val.2 rfl
    rcases hu with ⟨fs, l, hu, hpl, hps⟩ | ⟨n, e, ie, hu, hie, hps⟩
    · obtain ⟨k1, k2⟩ := partSizes_spec hps
      obtain ⟨us', f1, f2⟩ := putParts_sound (place := fun i => l[i]?) hf ps.toList ps' _ zero.toArray cs' k1 (fun j u q hu hq => by
        obtain ⟨h1, fd, h2, h3, h4⟩ := k2 j u q hu hq
        refine ⟨h1, ?_⟩
        rw [placesOf_get hpl h2 h4, h3]) hr0 hq
      refine Gives.same hs (v := .agg us') ?_ (R_agg.2 ⟨us'.toList, by simp, f2⟩)
      have hrp := run_places (P := P) g.w hpl
      unfold execOp
      have f1' : Instr.fill (fun x => l[x]?) zero.toArray (ps.toList.map fun (i, x) => (i, a.eval x)) = some us' := f1
      simp only [ho, Instr.build, Sem.run_bind, hzv, Result.andThen_ok, run_underlying hu, hrp]
      simp only [Value.cells, List.getElem?_toArray, Array.toList_map, f1']
      rfl
    · obtain ⟨k1, k2⟩ := partSizesA_spec hps
      obtain ⟨us', f1, f2⟩ := putParts_sound (place := fun i => some (i * ie.size, ie.size)) hf ps.toList ps' _ zero.toArray cs' k1 (fun j u q hu hq => by
        obtain ⟨h1, h2, h3⟩ := k2 j u q hu hq
        exact ⟨h1, by rw [h2, h3]⟩) hr0 hq
      refine Gives.same hs (v := .agg us') ?_ (R_agg.2 ⟨us'.toList, by simp, f2⟩)
      have hsz : ∀ w, (sizeOf e).run P w = .ok ie.size w := fun w => by simp [sizeOf, typeInfo, hie]
      unfold execOp
      have f1' : Instr.fill (fun i => some (i * ie.size, ie.size)) zero.toArray (ps.toList.map fun (i, x) => (i, a.eval x)) = some us' := f1
      simp only [ho, Instr.build, Sem.run_bind, hzv, Result.andThen_ok, run_underlying hu, hsz]
      simp only [Value.cells, Array.toList_map, f1']
      rfl

theorem g_s2b {src dst e : TypeId} {x : Operand} (hs : St g) (hf : FR g fr a) (ho : o.op = .convert src dst x) (hsrc : P.underlying src = some .string) (hdst : P.underlying dst = some (.slice e)) (he : P.underlying e = some (.int .u8))
    (h : ai fr g.σ (.s2b x) = some (p, σ')) : Gives P g o a p σ' := by
  have hr := hf.ev x
  simp only [ai] at h
  split at h
  · rename_i s hx
    rw [hx, R_val] at hr
    simp at h; obtain ⟨rfl, rfl⟩ := h
    have hsz : s.data.toList.length = s.size := by rw [Array.length_toList]; rfl
    let cap := (Question.appendCap s.size 0 e).cut (g.w.tape g.w.drawn (.appendCap s.size 0 e))
    have hcap : s.size ≤ cap := by simp [cap, Question.cut]
    let cs : Array Value := s.data.map (fun b => .int .u8 b.toNat) ++ Array.replicate (cap - s.size) (.int .u8 0)
    have hcs : cs.size = cap := by simp [cs]; have : s.data.size = s.size := rfl; omega
    let w1 : World := ({ g.w with drawn := g.w.drawn + 1, heap := g.w.heap.push (.cells cs e) } : World).freeze ⟨g.w.heap.size, cs.size, none⟩ 1
    have hw1 : w1.heap = g.w.heap.push (.cells cs e (cs.size, cs.size + 1)) := by
      simp only [w1, World.freeze]
      rw [if_neg (by simp)]
      apply Array.ext_getElem?
      intro i
      simp only [Array.getElem?_modify, Array.getElem?_push]
      by_cases hi : i = g.w.heap.size
      · subst hi; simp
      · rw [if_neg (fun e => hi e.symm), if_neg hi, if_neg hi]
    have hp : Pushed g.w w1 (.cells cs e (cs.size, cs.size + 1)) := ⟨hw1, by simp [w1, World.freeze], by simp [w1, World.freeze], by simp [w1, World.freeze]⟩
    have hfl : (s.data.toList.map fun b => PV.val (.int .u8 b.toNat)).flatMap PV.cells = s.data.toList.map fun b => PV.val (.int .u8 b.toNat) := by
      generalize s.data.toList = l
      induction l with
      | nil => rfl
      | cons b l ih => rw [List.map_cons, List.flatMap_cons, ih]; rfl
    refine gives_row (len := s.size) (cap := cap) (w1 := w1) (cs := cs) (e := e) (fz := (cs.size, cs.size + 1)) hs hp ?_ (fun j hj => by simp; omega) (fun y hy => by simp at hy; obtain ⟨b, _, rfl⟩ := hy; rfl) (by rw [List.length_map, hsz]) hcap (by omega) (fun j q hq => ?_)
    · unfold execOp
      have hshape : ({ g.w with drawn := g.w.drawn + 1, heap := g.w.heap.push (.cells cs e) } : World).shape? g.w.heap.size = some (e, cs.size) := by simp [World.shape?]
      simp only [ho, hr, convert, Sem.run_bind, run_underlying hsrc, run_underlying hdst, Result.andThen_ok, run_underlying he, Conv.stringToBytes, run_choose, Question.forced, Bool.false_eq_true, if_false, newRow, run_newObj, Sem.run_pure, markStringish, run_shape]
      rw [show ({ g.w with drawn := g.w.drawn + 1, heap := g.w.heap.push (.cells (s.data.map (fun b => Value.int .u8 b.toNat) ++ Array.replicate ((Question.appendCap s.size 0 e).cut (g.w.tape g.w.drawn (.appendCap s.size 0 e)) - s.size) (.int .u8 0)) e) } : World).shape? g.w.heap.size = some (e, cs.size) from hshape]
      simp only [run_freeze, Result.andThen_ok]
      rfl
    · rw [hfl] at hq
      simp at hq
      obtain ⟨b, hb, rfl⟩ := hq
      refine ⟨.int .u8 b.toNat, ?_, R_val.2 rfl⟩
      have hj : j < s.data.size := (Array.getElem?_eq_some_iff.1 hb).1
      simp only [cs]
      rw [Array.getElem?_append_left (by simpa using hj)]
      simp [hb]
  · cases h

theorem g_b2s {src dst e : TypeId} {x : Operand} (hs : St g) (hf : FR g fr a) (ho : o.op = .convert src dst x) (hsrc : P.underlying src = some (.slice e)) (hdst : P.underlying dst = some .string) (he : P.underlying e = some (.int .u8))
    (h : ai fr g.σ (.b2s x) = some (p, σ')) : Gives P g o a p σ' := by
  have hr := hf.ev x
  simp only [ai] at h
  split at h
  · rename_i ps hps
    cases hq : numsOf ps with
    | none => rw [hq] at h; simp at h
    | some l =>
      rw [hq] at h; simp at h; obtain ⟨rfl, rfl⟩ := h
      have hpl := numsOf_eq hq
      subst hpl
      have hfl : (l.map fun n => PV.val (.int .u8 n)).flatMap PV.cells = l.map fun n => PV.val (.int .u8 n) := by
        clear hps hq
        induction l with
        | nil => rfl
        | cons b l ih => rw [List.map_cons, List.flatMap_cons, ih]; rfl
      have hconv : (convert src dst (a.eval x)).run P g.w = .ok (.string (strOfNums l)) g.w := by
        have hform : ∃ q m c, a.eval x = .slice q l.length c ∧ (0 < l.length → ∃ ad, q = some ad ∧ ad.spot = none ∧ ∀ (j : Nat) r, (l.map fun n => PV.val (.int .u8 n))[j]? = some r → ∃ v, g.w.cell? (ad.add j) = some v ∧ R g r v) ∧ m = l.length := by
          unfold elemsA at hps
          split at hps
          · rename_i sz xs ex e1
            rw [e1] at hr
            injection hps with hps; subst hps
            obtain ⟨ad, cap, k1, ⟨k2, k2n⟩, k3, k4, k5, k6⟩ := R_list.1 hr
            refine ⟨ad, l.length, cap, by simpa using k1, fun h0 => ?_, rfl⟩
            obtain ⟨b, q1, q2, q3, q4⟩ := k6 (by simpa using h0)
            exact ⟨b, q1, q2, fun j r hj => q4 j r (by rw [hfl]; exact hj)⟩
          · rename_i id ver off len e1
            rw [e1] at hr
            split at hps
            · rename_i sz es ver' hσ
              split at hps
              · rename_i hv; subst hv
                injection hps with hps
                obtain ⟨ad, cap, k1, k2, sz'', es', v'', k3, k4, k5⟩ := R_own.1 hr
                rw [hσ] at k3; simp at k3; obtain ⟨rfl, rfl, rfl⟩ := k3
                obtain ⟨q1, q2⟩ := k5 rfl
                have hlen : len = l.length := by have := congrArg List.length hps; simp at this; omega
                subst hlen
                refine ⟨ad, l.length, cap, k1, fun h0 => ?_, rfl⟩
                rcases hs.obj id _ _ _ hσ with ⟨b, cs, el, fz, r1, r2, r3, r4, r5, r6⟩ | ⟨r1, r2⟩
                · simp only [r1] at q2
                  obtain ⟨q3, _⟩ := q2
                  have q3 := q3 (by omega)
                  have hsz1 : sz = 1 := by
                    have h0' : 0 < es.length := by omega
                    have hm : (l.map fun n => PV.val (.int .u8 n))[0]? = es[off]? := by rw [← hps, List.getElem?_take, if_pos h0, List.getElem?_drop]; rfl
                    cases l with
                    | nil => simp at h0
                    | cons n l =>
                      simp at hm
                      have := r4 _ (List.mem_of_getElem? hm.symm)
                      simpa [PV.cells] using this.symm
                  subst hsz1
                  refine ⟨_, q3, rfl, fun j r hj => ?_⟩
                  rw [addr_add_mk]
                  simp only [World.cell?, r2]
                  have hfl2 : (es.flatMap PV.cells)[off * 1 + j]? = some r := by
                    have := flat_take_drop r4 off l.length q1
                    rw [hps, hfl] at this
                    rw [this, List.getElem?_take] at hj
                    split at hj
                    · rw [List.getElem?_drop] at hj; exact hj
                    · cases hj
                  obtain ⟨v, hv1, hv2⟩ := r6 _ r hfl2
                  exact ⟨v, by simpa using hv1, hv2⟩
                · subst r2; simp only [List.length_nil] at q1; omega
              · cases hps
            · cases hps
          · rename_i e1
            rw [e1, R_val] at hr
            injection hps with hps
            have : l = [] := by cases l with | nil => rfl | cons => simp at hps
            subst this
            exact ⟨none, 0, 0, hr, fun h0 => by simp at h0, rfl⟩
          · cases hps
        obtain ⟨q, m, c, e1, e2, _⟩ := hform
        rw [e1]
        rcases Nat.eq_zero_or_pos l.length with h0 | h0
        · have : l = [] := List.eq_nil_of_length_eq_zero h0
          subst this
          cases q with
          | none => exact run_convert_bytes_nil g.w src e hsrc he 0 c dst hdst
          | some ad =>
            rw [run_convert_bytes_string g.w src dst e _ _ c hsrc he hdst]
            simp [Conv.bytesToString, loadCells, loadCellsFrom, strOfNums]
            rfl
        · obtain ⟨ad, rfl, k1, k2⟩ := e2 h0
          have had : ad = ⟨ad.block, ad.off, none⟩ := by cases ad; simp at k1; subst k1; rfl
          rw [had]
          refine run_convert_bytes_arg g.w src e hsrc he ad.block ad.off l.length c l rfl (fun i hi => ?_) dst hdst
          obtain ⟨v, hv1, hv2⟩ := k2 i (.val (.int .u8 l[i])) (by simp [hi])
          rw [R_val] at hv2; subst hv2
          rw [addr_eta k1] at hv1
          rw [hv1]
          simp [List.getD, hi]
      refine Gives.same hs (v := .string (strOfNums l)) ?_ (R_val.2 rfl)
      unfold execOp
      simp [ho, hconv]
  · cases h

theorem placesOf_some {fs : Array Field} (h : (placesOf P fs).isSome = true) : ∃ l, placesOf P fs = some l := Option.isSome_iff_exists.1 h

/-- ALL OPERATIONS: what is told is what the machine does. -/
theorem ai_sound {i : AI} (hs : St g) (hf : FR g fr a) (hc : chkI P o i = true) (h : ai fr g.σ i = some (p, σ')) : Gives P g o a p σ' := by
  have key : ∀ op, o.op = op → chkI P o i = true → Gives P g o a p σ' := by
    intro op hop hc
    unfold chkI at hc
    rw [hop] at hc
    cases op <;> cases i <;> simp only [Bool.and_eq_true, Bool.false_eq_true, decide_eq_true_eq, beq_iff_eq] at hc <;> (first | exact hc.elim | exact absurd (show (none : Option (PV × List AObj)) = some (p, σ') from h) (by simp) | skip)
    case move.mv => rename_i x y _; obtain rfl := oeq_eq hc; simp [ai] at h; obtain ⟨rfl, rfl⟩ := h; exact g_mv hs hf (.inl hop)
    case assign.mv => rename_i x y _; obtain rfl := oeq_eq hc; simp [ai] at h; obtain ⟨rfl, rfl⟩ := h; exact g_mv hs hf (.inr hop)
    case pick.pick =>
      rename_i c x y c' x' y' _
      obtain ⟨⟨h1, h2⟩, h3⟩ := hc
      obtain rfl := oeq_eq h1; obtain rfl := oeq_eq h2; obtain rfl := oeq_eq h3
      simp only [ai] at h
      split at h
      · rename_i t hct
        injection h with h; injection h with h4 h5; subst h4; subst h5
        exact g_pick hs hf hop hct
      · cases h
    case alloc.alloc => exact g_alloc hs hop hc h
    case box.box => rename_i x t y _; obtain rfl := oeq_eq hc; exact g_box hs hf hop h
    case build.build =>
      rename_i t ps zero ps' _
      obtain ⟨⟨h1, h2⟩, h3⟩ := hc
      refine g_build hs hf hop ?_ (by simpa using h2) ?_ h
      · split at h1
        · rename_i i hi
          split at h1
          · rename_i z hz; exact ⟨i, z, hi, hz, h1⟩
          · cases h1
        · cases h1
      · split at h3
        · rename_i fs hfs
          simp only [Bool.and_eq_true] at h3
          obtain ⟨l, hl⟩ := placesOf_some h3.1
          exact .inl ⟨fs, l, hfs, hl, h3.2⟩
        · rename_i n e he
          split at h3
          · rename_i i hi; exact .inr ⟨n, e, i, he, hi, h3⟩
          · cases h3
        · cases h3
    case buildSlice.lits =>
      rename_i t len ps fz sz len' z ps' _
      obtain ⟨⟨⟨⟨⟨⟨h1, h2⟩, h3⟩, h4⟩, h5⟩, h6⟩, h7⟩ := hc
      subst h1
      split at h7
      · rename_i e he
        simp only [Bool.and_eq_true] at h7
        exact g_lits hs hf hop (partsEq_eq h2) h3 h4 h5 h6 he h7.1 h7.2 h
      · cases h7
    case load.load =>
      rename_i t x n agg y _
      obtain ⟨⟨h1, h2⟩, h3⟩ := hc
      obtain rfl := oeq_eq h1
      simp only [ai] at h
      cases hl : loadA g.σ (aev fr x) n agg with
      | none => rw [hl] at h; simp at h
      | some q => rw [hl] at h; simp at h; obtain ⟨rfl, rfl⟩ := h; exact g_load hs hf hop h2 h3 hl
    case store.store =>
      rename_i t x y n x' y' _
      obtain ⟨⟨h1, h2⟩, h3⟩ := hc
      obtain rfl := oeq_eq h1; obtain rfl := oeq_eq h2
      exact g_store hs hf hop h3 h
    case nilCheck.nilc => rename_i x y _; obtain rfl := oeq_eq hc; exact g_nilc hs hf hop h
    case binOp.bin =>
      rename_i op1 t x y t' op2 x' y' _
      obtain ⟨⟨h1, h2⟩, h3⟩ := hc
      subst h1; obtain rfl := oeq_eq h2; obtain rfl := oeq_eq h3
      exact g_bin hs hf hop h
    case binOp.eqb =>
      rename_i op1 t x y t' neg x' y' _
      obtain ⟨⟨⟨h1, h2⟩, h3⟩, h4⟩ := hc
      subst h1; obtain rfl := oeq_eq h2; obtain rfl := oeq_eq h3
      exact g_eqb hs hf hop (isBool_eq h4) h
    case binOp.eqst =>
      rename_i op1 t x y t' neg ks x' y' _
      obtain ⟨⟨⟨⟨h1, h2⟩, h3⟩, h4⟩, h5⟩ := hc
      subst h1; obtain rfl := oeq_eq h2; obtain rfl := oeq_eq h3
      exact g_eqst hs hf hop h4 (by simpa using h5) h
    case binOp.eqnil =>
      rename_i op1 t x y t' neg left k x' _
      obtain ⟨⟨⟨h1, h2⟩, h3⟩, h4⟩ := hc
      subst h1
      refine g_eqnil hs hf hop (left := left) ?_ h3 (oeq_eq h4) h
      cases left <;> simp at h2 ⊢ <;> exact oeq_eq h2
    case unOp.un =>
      rename_i op1 t x op2 y _
      obtain ⟨h1, h2⟩ := hc
      subst h1; obtain rfl := oeq_eq h2
      exact g_un hs hf hop h
    case convert.conv =>
      rename_i src dst x k y _
      obtain ⟨h1, h2⟩ := hc
      obtain rfl := oeq_eq h1
      split at h2
      · rename_i k1 k2 e1 e2; simp at h2; subst h2; exact g_conv hs hf hop e1 e2 h
      · cases h2
    case convert.s2b =>
      rename_i src dst x y _
      obtain ⟨h1, h2⟩ := hc
      obtain rfl := oeq_eq h1
      split at h2
      · rename_i e e1 e2; exact g_s2b hs hf hop e1 e2 (isInt_eq h2) h
      · cases h2
    case convert.b2s =>
      rename_i src dst x y _
      obtain ⟨h1, h2⟩ := hc
      obtain rfl := oeq_eq h1
      split at h2
      · rename_i e e1 e2; exact g_b2s hs hf hop e1 e2 (isInt_eq h2) h
      · cases h2
    case makeFunc.mkfn =>
      rename_i fn first caps f caps' _
      obtain ⟨⟨h1, h2⟩, h3⟩ := hc
      have h3 := oeqs_eq h3
      simp at h2; subst h2
      split at h1
      · simp at h1; subst h1
        simp [ai] at h; obtain ⟨rfl, rfl⟩ := h
        rw [← h3]
        exact g_mkfn hs hf hop
      · cases h1
    case makeSlice.make =>
      rename_i t l c l' c' sz bytes z _
      obtain ⟨⟨⟨⟨h1, h2⟩, h3⟩, h4⟩, h5⟩ := hc
      obtain rfl := oeq_eq h1; obtain rfl := oeq_eq h2
      split at h5
      · rename_i e he
        simp only [Bool.and_eq_true] at h5
        exact g_make hs hf hop he h5.1.1 h5.1.2 h5.2 h3 h4 h
      · cases h5
    case slice.slcS =>
      rename_i t x lo hi mx x' lo' hi' mx' sz _
      obtain ⟨⟨⟨⟨⟨h1, h2⟩, h3⟩, h4⟩, h5⟩, h6⟩ := hc
      obtain rfl := oeq_eq h1; obtain rfl := ooeq_eq h2; obtain rfl := ooeq_eq h3; obtain rfl := ooeq_eq h4
      split at h6
      · rename_i e he
        exact g_slcS hs hf hop he h6 (fun hm => by cases mx with | none => cases hm | some m => simpa using h5) h
      · cases h6
    case slice.slcStr =>
      rename_i t x lo hi mx x' lo' hi' _
      obtain ⟨⟨⟨⟨h1, h2⟩, h3⟩, h4⟩, h5⟩ := hc
      obtain rfl := oeq_eq h1; obtain rfl := ooeq_eq h2; obtain rfl := ooeq_eq h3
      have h4 : mx = none := by simpa using h4
      subst h4
      exact g_slcStr hs hf hop (isStr_eq h5) h
    case fieldAddr.faddr => rename_i t x f y off _; obtain rfl := oeq_eq hc.1; exact g_faddr hs hf hop hc.2 h
    case field.field => rename_i t x f y off n agg _; obtain rfl := oeq_eq hc.1; exact g_field hs hf hop hc.2 h
    case indexAddr.iaddrS =>
      rename_i t x i x' i' sz _
      obtain ⟨⟨h1, h2⟩, h3⟩ := hc
      obtain rfl := oeq_eq h1; obtain rfl := oeq_eq h2
      split at h3
      · rename_i e he; exact g_iaddrS hs hf hop he h3 h
      · cases h3
    case indexAddr.iaddrA =>
      rename_i t x i x' i' len sz _
      obtain ⟨⟨h1, h2⟩, h3⟩ := hc
      obtain rfl := oeq_eq h1; obtain rfl := oeq_eq h2
      split at h3
      · rename_i n e he; simp at h3; obtain ⟨rfl, h3⟩ := h3; exact g_iaddrA hs hf hop he h3 h
      · cases h3
    case index.idxStr =>
      rename_i t x i x' i' _
      obtain ⟨⟨h1, h2⟩, h3⟩ := hc
      obtain rfl := oeq_eq h1; obtain rfl := oeq_eq h2
      exact g_idxStr hs hf hop (isStr_eq h3) h
    case index.idxArr =>
      rename_i t x i x' i' len sz agg _
      obtain ⟨⟨h1, h2⟩, h3⟩ := hc
      obtain rfl := oeq_eq h1; obtain rfl := oeq_eq h2
      split at h3
      · rename_i n e he; simp only [Bool.and_eq_true, beq_iff_eq] at h3; obtain ⟨⟨⟨rfl, h4⟩, h5⟩, h6⟩ := h3; exact g_idxArr hs hf hop he h4 h5 h6 h
      · cases h3
    case extract.ext => rename_i x i y j _; obtain ⟨h1, rfl⟩ := hc; obtain rfl := oeq_eq h1; exact g_ext hs hf hop h
    case call.idxb => exact g_idxb hs hf hop hc.1 hc.2 h
    case call.mx => exact g_mx hs hf hop hc.1 hc.2 h
    case call.appz => obtain ⟨⟨h1, h2⟩, h3⟩ := hc; exact g_appz hs hf hop h1 h2 h3 h
    case call.cap => obtain ⟨⟨h1, h2⟩, h3⟩ := hc; exact g_cap hs hf hop h1 h2 h3 h
    case call.len => obtain ⟨⟨h1, h2⟩, h3⟩ := hc; exact g_len hs hf hop h1 h2 h3 h
    case call.append => obtain ⟨⟨h1, h2⟩, h3⟩ := hc; exact g_append hs hf hop h1 h2 h3 h
    case alloc.bld =>
      rename_i t k xs _
      cases k with
      | allocT T z =>
        cases xs with
        | nil => simp only [Bool.and_eq_true, beq_iff_eq] at hc; obtain ⟨rfl, h2⟩ := hc; exact g_allocT hs hop h2 h
        | cons => simp at hc
      | _ => simp at hc
    case convert.bld =>
      rename_i src dst x k xs _
      cases k with
      | uns =>
        match xs, hc, h with
        | [], hc, _ => simp at hc
        | [x'], hc, h =>
          simp only [Bool.and_eq_true] at hc
          obtain ⟨⟨h1, h2⟩, h3⟩ := hc
          obtain rfl := oeq_eq h1
          split at h3
          · rename_i u hu; exact g_uns hs hf hop h2 hu h3 h
          · cases h3
        | _ :: _ :: _, hc, _ => simp at hc
      | funs T =>
        match xs, hc, h with
        | [], hc, _ => simp at hc
        | [x'], hc, h =>
          simp only [Bool.and_eq_true, decide_eq_true_eq] at hc
          obtain ⟨⟨⟨h1, h2⟩, h3⟩, h4⟩ := hc
          obtain rfl := oeq_eq h1
          split at h4
          · rename_i u hu; simp only [Bool.and_eq_true, beq_iff_eq] at h4; obtain ⟨rfl, h4⟩ := h4; exact g_funs hs hf hop h2 h3 hu h4 h
          · cases h4
        | _ :: _ :: _, hc, _ => simp at hc
      | _ => simp at hc
    case binOp.bld =>
      rename_i op1 t x y t' k xs _
      cases k with
      | eqp neg =>
        match xs, hc, h with
        | [], hc, _ => simp at hc
        | [_], hc, _ => simp at hc
        | [x', y'], hc, h =>
          simp only [Bool.and_eq_true, decide_eq_true_eq] at hc
          obtain ⟨⟨⟨h1, h2⟩, h3⟩, h4⟩ := hc
          subst h1; obtain rfl := oeq_eq h2; obtain rfl := oeq_eq h3
          split at h4
          · rename_i u hu; exact g_eqp hs hf hop hu h4 h
          · cases h4
        | _ :: _ :: _ :: _, hc, _ => simp at hc
      | _ => simp at hc
    case call.bld =>
      rename_i c k xs _
      cases k with
      | noesc f =>
        match xs, hc, h with
        | [], hc, _ => simp at hc
        | [x'], hc, h => simp only [Bool.and_eq_true] at hc; exact g_noesc hs hf hop hc.1 hc.2 h
        | _ :: _ :: _, hc, _ => simp at hc
      | sdata =>
        match xs, hc, h with
        | [], hc, _ => simp at hc
        | [x'], hc, h => simp only [Bool.and_eq_true] at hc; exact g_sdata hs hf hop hc.1 hc.2 h
        | _ :: _ :: _, hc, _ => simp at hc
      | appn T sz bytes =>
        match xs, hc, h with
        | [], hc, _ => simp at hc
        | [_], hc, _ => simp at hc
        | [s', x'], hc, h => simp only [Bool.and_eq_true] at hc; obtain ⟨⟨⟨h1, h2⟩, h3⟩, h4⟩ := hc; exact g_appn hs hf hop h1 h2 h3 h4 h
        | _ :: _ :: _ :: _, hc, _ => simp at hc
      | ustr T =>
        match xs, hc, h with
        | [], hc, _ => simp at hc
        | [_], hc, _ => simp at hc
        | [x', y'], hc, h =>
          simp only [Bool.and_eq_true] at hc
          obtain ⟨⟨h1, h2⟩, h3⟩ := hc
          split at h3
          · rename_i pt it hts
            split at h3
            · rename_i e he
              simp only [Bool.and_eq_true, beq_iff_eq, decide_eq_true_eq] at h3
              obtain ⟨rfl, h3⟩ := h3
              exact g_ustr hs hf hop h1 h2 hts he h3 h
            · cases h3
          · cases h3
        | _ :: _ :: _ :: _, hc, _ => simp at hc
      | _ => simp at hc
  exact key _ rfl hc
theorem ai2_sound {i : AI} {q : (PV × List AObj) × (PV × List AObj)} (hs : St g) (hf : FR g fr a) (hc : chkI P o i = true) (h : ai2 fr g.σ i = some q) : Gives P g o a q.1.1 q.1.2 ∨ Gives P g o a q.2.1 q.2.2 := by
  cases i with
  | append s x sz bytes =>
    unfold chkI at hc
    cases hop : o.op with
    | call c =>
      rw [hop] at hc
      simp only [Bool.and_eq_true] at hc
      exact g_append2 hs hf hop hc.1.1 hc.1.2 hc.2 h
    | _ => rw [hop] at hc; simp at hc
  | _ => simp [ai2] at h

end

end Aw
end Go.Proofs.Ytoliadfdklfmfaa
