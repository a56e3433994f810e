/- Each operation gives what is told: stores, appends, literals. -/
import Derived.Test.YtegjfjckijmgcaaAw9
set_option linter.unusedVariables false
set_option linter.unusedSimpArgs false
namespace Go.Proofs.Ytegjfjckijmgcaa
namespace Aw
section
variable {g : G}

theorem set_get? {α : Type} {l : List α} {i j : Nat} {x y : α} (h : (l.set i x)[j]? = some y) : (j = i ∧ y = x ∧ i < l.length) ∨ (j ≠ i ∧ l[j]? = some y) := by
  by_cases hj : j = i
  · subst hj
    rcases Nat.lt_or_ge j l.length with hl | hl
    · rw [List.getElem?_set_self hl] at h; injection h with h; exact .inl ⟨rfl, h.symm, hl⟩
    · rw [List.getElem?_eq_none (by simpa using hl)] at h; cases h
  · rw [List.getElem?_set_ne (fun e => hj e.symm)] at h; exact .inr ⟨hj, h⟩

/-- One object turns. -/
theorem St.upd (hs : St g) {id sz ver ver' : Nat} {es es' : List PV} {ob : Option Nat} {w' : World} (hσ : g.σ[id]? = some (.row sz es ver))
    (hos : w'.os = g.w.os) (htape : w'.tape = g.w.tape) (hout : w'.output = g.w.output) (hsize : g.w.heap.size ≤ w'.heap.size)
    (hold : ∀ k, k < g.w.heap.size → g.ρ[id]? ≠ some (some k) → w'.heap[k]? = g.w.heap[k]?)
    (hob : ∀ b, ob = some b → g.ρ[id]? = some (some b) ∨ g.w.heap.size ≤ b)
    (hv : ver ≤ ver') (hsame : ver = ver' → es.length ≤ es'.length ∧ g.ρ[id]? = some ob ∧ ∀ b, ob = some b → blockSize w' b = blockSize g.w b)
    (hnew : (∃ b cs e fz, ob = some b ∧ w'.heap[b]? = some (.cells cs e fz) ∧ (∀ j, j < cs.size → ¬ (fz.1 ≤ j ∧ j < fz.2)) ∧ (∀ x ∈ es', x.cells.length = sz) ∧ es'.length * sz ≤ cs.size ∧
      ∀ (j : Nat) p, (es'.flatMap PV.cells)[j]? = some p → ∃ v, cs[j]? = some v ∧ R g p v) ∨ (ob = none ∧ es' = [])) :
    St ⟨g.σ.set id (.row sz es' ver'), g.ρ.set id ob, w', g.h⟩ ∧ Step g ⟨g.σ.set id (.row sz es' ver'), g.ρ.set id ob, w', g.h⟩ := by
  have hid : id < g.σ.length := (List.getElem?_eq_some_iff.1 hσ).1
  have hidρ : id < g.ρ.length := by rw [hs.len]; exact hid
  have hstep : Step g ⟨g.σ.set id (.row sz es' ver'), g.ρ.set id ob, w', g.h⟩ := by
    refine ⟨rfl, hos, htape, hout, hsize, fun b hb hn => hold b hb (hn id), fun i b hb => ?_, fun i sz1 es1 ver1 ho => ?_⟩
    · rcases set_get? hb with ⟨rfl, h2, _⟩ | ⟨_, h2⟩
      · rcases hob b h2.symm with h3 | h3
        · exact .inr ⟨i, h3⟩
        · exact .inl h3
      · exact .inr ⟨i, h2⟩
    · by_cases hi : i = id
      · subst hi
        rw [hσ] at ho; simp at ho; obtain ⟨rfl, rfl, rfl⟩ := ho
        refine ⟨es', ver', by show (g.σ.set i _)[i]? = _; rw [List.getElem?_set_self hid], hv, fun e => ?_⟩
        obtain ⟨h1, h2, h3⟩ := hsame e
        refine ⟨h1, by show (g.ρ.set i ob)[i]? = _; rw [List.getElem?_set_self hidρ, h2], fun b hb => h3 b ?_⟩
        rw [h2] at hb; injection hb
      · refine ⟨es1, ver1, by show (g.σ.set id _)[i]? = _; rw [List.getElem?_set_ne (fun e => hi e.symm)]; exact ho, Nat.le_refl _, fun _ => ⟨Nat.le_refl _, by show (g.ρ.set id ob)[i]? = _; rw [List.getElem?_set_ne (fun e => hi e.symm)], fun b hb => ?_⟩⟩
        unfold blockSize
        rw [show (G.w ⟨g.σ.set id (.row sz es' ver'), g.ρ.set id ob, w', g.h⟩) = w' from rfl, hold b (hs.block_lt hb) (fun e => hi (hs.inj i id b hb e))]
  refine ⟨⟨hs.hidS hstep, by simp [hs.len], fun i j b hi hj => ?_, fun i sz1 es1 ver1 ho => ?_⟩, hstep⟩
  · rcases set_get? hi with ⟨rfl, h2, _⟩ | ⟨h1, h2⟩ <;> rcases set_get? hj with ⟨rfl, h4, _⟩ | ⟨h3, h4⟩
    · rfl
    · rcases hob b h2.symm with h5 | h5
      · exact hs.inj i j b h5 h4
      · have := hs.block_lt h4; omega
    · rcases hob b h4.symm with h5 | h5
      · exact hs.inj i j b h2 h5
      · have := hs.block_lt h2; omega
    · exact hs.inj i j b h2 h4
  · rcases set_get? ho with ⟨rfl, h2, _⟩ | ⟨h1, h2⟩
    · injection h2 with q1 q2 q3; subst q1; subst q2; subst q3
      rcases hnew with ⟨b, cs, e, fz, k1, k2, k3, k4, k5, k6⟩ | ⟨k1, k2⟩
      · exact .inl ⟨b, cs, e, fz, by show (g.ρ.set i ob)[i]? = _; rw [List.getElem?_set_self hidρ, k1], k2, k3, k4, k5, fun j p hp => let ⟨v, q1, q2⟩ := k6 j p hp; ⟨v, q1, q2.step hstep⟩⟩
      · exact .inr ⟨by show (g.ρ.set i ob)[i]? = _; rw [List.getElem?_set_self hidρ, k1], k2⟩
    · rcases hs.obj i sz1 es1 ver1 h2 with ⟨b, cs, e, fz, k1, k2, k3, k4, k5, k6⟩ | ⟨k1, k2⟩
      · exact .inl ⟨b, cs, e, fz, by show (g.ρ.set id ob)[i]? = _; rw [List.getElem?_set_ne (fun e => h1 e.symm)]; exact k1, by show w'.heap[b]? = _; rw [hold b (hs.block_lt k1) (fun e => h1 (hs.inj i id b k1 e))]; exact k2, k3, k4, k5, fun j p hp => let ⟨v, q1, q2⟩ := k6 j p hp; ⟨v, q1, q2.step hstep⟩⟩
      · exact .inr ⟨by show (g.ρ.set id ob)[i]? = _; rw [List.getElem?_set_ne (fun e => h1 e.symm)]; exact k1, k2⟩

/-- Cells are written. -/
theorem run_storeCells_soft {P : Program} {b o : Nat} {e : TypeId} {fz : Nat × Nat} : ∀ (vs : List Value) (i : Nat) (cs : Array Value) (w : World), w.heap[b]? = some (.cells cs e fz) → (∀ j, j < cs.size → ¬ (fz.1 ≤ j ∧ j < fz.2)) →
    o + i + vs.length ≤ cs.size → (∀ v ∈ vs, v.oneCell' = true) →
    ∃ w', (storeCells ⟨b, o, none⟩ vs i).run P w = .ok () w' ∧ w'.os = w.os ∧ w'.tape = w.tape ∧ w'.output = w.output ∧ w'.heap.size = w.heap.size ∧ (∀ k, k ≠ b → w'.heap[k]? = w.heap[k]?) ∧
      w'.heap[b]? = some (.cells ((vs.zipIdx i).foldl (fun cs (x : Value × Nat) => cs.setIfInBounds (o + x.2) x.1) cs) e fz)
  | [], i, cs, w, h, _, _, _ => ⟨w, rfl, rfl, rfl, rfl, rfl, fun _ _ => rfl, h⟩
  | v :: vs, i, cs, w, h, hsoft, hle, h1 => by
    have hlt : o + i < cs.size := by simp at hle; omega
    have hcell : w.cell? ((⟨b, o, none⟩ : Addr).add i) = some cs[o + i] := by rw [addr_add_mk]; simp [World.cell?, h, hlt]
    have hfz : w.frozen? ((⟨b, o, none⟩ : Addr).add i) = false := by
      rw [addr_add_mk]; simp only [World.frozen?, h]
      have := hsoft _ hlt
      simp; omega
    have hb : b < w.heap.size := (Array.getElem?_eq_some_iff.1 h).1
    have hset : (w.setCell ((⟨b, o, none⟩ : Addr).add i) v).heap[b]? = some (.cells (cs.setIfInBounds (o + i) v) e fz) := by
      rw [addr_add_mk]; simp [World.setCell, Array.getElem?_modify, h]
    have hle' : o + (i + 1) + vs.length ≤ (cs.setIfInBounds (o + i) v).size := by simp at hle ⊢; omega
    obtain ⟨w', r1, r2, r3, r4, r5, r6, r7⟩ := run_storeCells_soft vs (i + 1) (cs.setIfInBounds (o + i) v) _ hset (by simpa using hsoft) hle' (fun u hu => h1 u (List.mem_cons_of_mem _ hu))
    refine ⟨w', ?_, r2, r3, r4, by rw [r5]; simp [World.setCell], fun k hk => ?_, by rw [r7]; rfl⟩
    · simp only [storeCells, Sem.run_bind]
      rw [run_store P w _ v .plain (h1 v (List.mem_cons_self ..)), hcell]
      simp only [hfz, Bool.false_eq_true, if_false, Result.andThen_ok]
      exact r1
    · rw [r6 k hk, addr_add_mk]
      simp only [World.setCell, Array.getElem?_modify]
      rw [if_neg (fun e => hk e.symm)]
end

section
variable {P : Program} {g : G} {fr : List PV} {a : Act} {o : Oper} {p : PV} {σ' : List AObj}

theorem setCells_cells {e : PV} {off : Nat} {new : List PV} {n : Nat} (hn : new.length = n) (h0 : 0 < n) (hle : off + n ≤ e.cells.length) (hone : ∀ q ∈ new, q.one = true) : (setCells e off new).cells.length = e.cells.length ∧
    ∀ k : Nat, (setCells e off new).cells[k]? = if off ≤ k ∧ k < off + n then new[k - off]? else e.cells[k]? := by
  subst hn
  by_cases he : ∃ ps, e = .agg ps
  · obtain ⟨ps, rfl⟩ := he
    simp only [setCells, PV.cells] at hle ⊢
    refine ⟨by simp; omega, fun k => ?_⟩
    rcases Nat.lt_or_ge k off with h1 | h1
    · rw [if_neg (by omega), List.append_assoc, List.getElem?_append_left (by simp; omega), List.getElem?_take, if_pos h1]
    · rcases Nat.lt_or_ge k (off + new.length) with h2 | h2
      · rw [if_pos ⟨h1, h2⟩, List.append_assoc, List.getElem?_append_right (by simp; omega), List.getElem?_append_left (by simp; omega)]
        congr 1; simp; omega
      · rw [if_neg (by omega), List.getElem?_append_right (by simp; omega), List.getElem?_drop]
        congr 1; simp; omega
  · have hc : e.cells = [e] := by cases e <;> first | rfl | exact absurd ⟨_, rfl⟩ he
    have hs : setCells e off new = new.headD .any := by cases e <;> first | rfl | exact absurd ⟨_, rfl⟩ he
    rw [hc] at hle ⊢
    simp only [List.length_singleton] at hle ⊢
    obtain ⟨q, rfl⟩ := List.length_eq_one_iff.1 (show new.length = 1 by omega)
    have hoff : off = 0 := by simp at hle; omega
    subst hoff
    rw [hs]
    simp only [List.headD]
    rw [PV.one_cells (hone q (List.mem_singleton.2 rfl))]
    refine ⟨rfl, fun k => ?_⟩
    cases k with
    | zero => simp
    | succ k => simp

theorem okc_one {q : PV} (h : q.okc = true) : ∀ r ∈ q.cells, r.one = true := by
  cases q with
  | agg ps => simpa only [PV.okc, PV.cells, List.all_eq_true] using h
  | _ => intro r hr; simp only [PV.cells, List.mem_singleton] at hr; subst hr; exact h

theorem g_store {t : TypeId} {ad x : Operand} {n : Nat} (hs : St g) (hf : FR g fr a) (ho : o.op = .store t ad x) (hz : sizeIs P t n = true) (h : ai fr g.σ (.store n ad x) = some (p, σ')) : Gives P g o a p σ' := by
  have hra := hf.ev ad
  have hrx := hf.ev x
  simp only [ai] at h
  split at h
  · rename_i id ver i off had
    rw [had] at hra
    split at h
    · rename_i sz es ver' hσ
      split at h
      · rename_i hv; subst hv
        split at h
        · rename_i e he
          split at h
          · rename_i hb
            simp only [Bool.and_eq_true, decide_eq_true_eq] at hb
            obtain ⟨⟨⟨hb1, hb2⟩, hb3⟩, hb4⟩ := hb
            simp at h; obtain ⟨rfl, rfl⟩ := h
            obtain ⟨adr, e1, sz', es', v', e2, e3, e4⟩ := R_ptr.1 hra
            rw [hσ] at e2; simp at e2; obtain ⟨rfl, rfl, rfl⟩ := e2
            obtain ⟨k1, b, k2, rfl⟩ := e4 rfl
            rcases hs.obj id _ _ _ hσ with ⟨b', cs, el, fz, r1, r2, r3, r4, r5, r6⟩ | ⟨r1, r2⟩
            · rw [k2] at r1; simp at r1; subst r1
              have hem := List.mem_of_getElem? he
              have hsz : e.cells.length = sz := r4 e hem
              have hcells := hrx.cells hb1
              have hlen : (a.eval x).cells.toList.length = n := by rw [hcells.1.1, hb2]
              have hisz : i * sz + sz ≤ cs.size := Nat.le_trans (by rw [← Nat.succ_mul]; exact Nat.mul_le_mul_right _ k1) r5
              obtain ⟨w', f1, f2, f3, f4, f5, f6, f7⟩ := run_storeCells_soft (P := P) (o := i * sz + off) (a.eval x).cells.toList 0 cs g.w r2 r3 (by omega) hcells.2
              have hget := fun k => foldl_set_get (i * sz + off) k (a.eval x).cells.toList 0 cs
              have hsize := (hget 0).1
              obtain ⟨c1, c2⟩ := setCells_cells (off := off) hb2 hb3 hb4 (okc_one hb1)
              have hone : (setCells e off (aev fr x).cells).cells.length = sz := c1.trans hsz
              have hu : Rs g (setCells e off (aev fr x).cells).cells ((cs.toList.drop (i * sz)).take off ++ (a.eval x).cells.toList ++ (cs.toList.drop (i * sz + off + n)).take (sz - off - n)) := by
                refine ⟨by simp [hone, hlen]; simp at hlen; omega, fun j q v hq hv => ?_⟩
                rw [c2] at hq
                have hold : ∀ j', j' < sz → ∀ q v, e.cells[j']? = some q → cs[i * sz + j']? = some v → R g q v := by
                  intro j' hj' q v hq hv
                  obtain ⟨v', q1, q2⟩ := r6 (i * sz + j') q (by rw [flat_get r4 he hj']; exact hq)
                  rw [hv] at q1; injection q1 with q1; subst q1; exact q2
                rcases Nat.lt_or_ge j off with h1 | h1
                · rw [if_neg (by omega)] at hq
                  rw [List.append_assoc, List.getElem?_append_left (by simp; omega), List.getElem?_take, if_pos h1, List.getElem?_drop] at hv
                  exact hold j (by omega) q v hq (by simpa using hv)
                · rcases Nat.lt_or_ge j (off + n) with h2 | h2
                  · rw [if_pos ⟨h1, h2⟩] at hq
                    rw [List.append_assoc, List.getElem?_append_right (by simp; omega), List.getElem?_append_left (by simp; simp at hlen; omega)] at hv
                    have hlt : ((cs.toList.drop (i * sz)).take off).length = off := by simp; omega
                    rw [hlt] at hv
                    exact hcells.1.2 _ q v hq hv
                  · rw [if_neg (by omega)] at hq
                    have hjs : j < sz := by have := (List.getElem?_eq_some_iff.1 hq).1; omega
                    have hlt : ((cs.toList.drop (i * sz)).take off ++ (a.eval x).cells.toList).length = off + n := by rw [List.length_append, hlen]; simp; omega
                    rw [List.getElem?_append_right (by rw [hlt]; exact h2), hlt, List.getElem?_take, if_pos (by omega), List.getElem?_drop] at hv
                    rw [show i * sz + off + n + (j - (off + n)) = i * sz + j by omega] at hv
                    exact hold j hjs q v hq (by simpa using hv)
              have h0 : 0 < sz := by omega
              obtain ⟨s1, s2⟩ := set_cells (g := g) (i := i) (sz := sz) (cs := cs) (cs' := ((a.eval x).cells.toList.zipIdx 0).foldl (fun cs (x : Value × Nat) => cs.setIfInBounds (i * sz + off + x.2) x.1) cs) h0 r4 k1 hone hu r6 (fun k => by
                rw [(hget k).2]
                rw [Nat.add_zero, hlen]
                by_cases hk : i * sz ≤ k ∧ k < i * sz + sz ∧ k < cs.size
                · rw [if_pos hk]
                  rcases Nat.lt_or_ge k (i * sz + off) with h1 | h1
                  · rw [if_neg (by omega), List.append_assoc, List.getElem?_append_left (by simp; omega), List.getElem?_take, if_pos (by omega), List.getElem?_drop]
                    rw [show i * sz + (k - i * sz) = k by omega]; simp
                  · rcases Nat.lt_or_ge k (i * sz + off + n) with h2 | h2
                    · rw [if_pos (by omega), List.append_assoc, List.getElem?_append_right (by simp; omega), List.getElem?_append_left (by simp; simp at hlen; omega)]
                      congr 1; simp; omega
                    · rw [if_neg (by omega)]
                      have hlt : ((cs.toList.drop (i * sz)).take off ++ (a.eval x).cells.toList).length = off + n := by rw [List.length_append, hlen]; simp; omega
                      rw [List.getElem?_append_right (by rw [hlt]; omega), hlt, List.getElem?_take, if_pos (by omega), List.getElem?_drop]
                      rw [show i * sz + off + n + (k - i * sz - (off + n)) = k by omega]; simp
                · rw [if_neg hk, if_neg (by omega)])
              obtain ⟨u1, u2⟩ := hs.upd (es' := es.set i (setCells e off (aev fr x).cells)) (ver' := ver) (ob := some b) hσ f2 f3 f4 (by omega) (fun k _ hk => f6 k (fun e => hk (by rw [k2, e]))) (fun b' hb' => by injection hb' with hb'; subst hb'; exact .inl k2) (Nat.le_refl _) (fun _ => ⟨by simp, k2, fun b' hb' => by
                injection hb' with hb'; subst hb'
                unfold blockSize; rw [f7, r2]; simp [hsize]⟩) (.inl ⟨b, _, el, fz, rfl, f7, by rw [hsize]; exact r3, s1, by rw [hsize]; simpa using r5, s2⟩)
              have hρ : g.ρ.set id (some b) = g.ρ := by
                apply List.ext_getElem?
                intro j
                by_cases hj : id = j
                · subst hj; rw [List.getElem?_set_self (List.getElem?_eq_some_iff.1 k2).1, k2]
                · rw [List.getElem?_set_ne hj]
              refine ⟨.skip, undef, w', _, ?_, .inr ⟨rfl, rfl⟩, u1, u2, R_any _ _⟩
              have hne : ¬ ((a.eval x).cells.size ≠ n) := by simpa using hlen
              unfold execOp
              simp [ho, e1, Instr.storeAt, Instr.sureAddr, storeVar, sizeIs_run hz]
              simp at hlen
              simp [hlen, f1]
            · subst r2; simp at he
          · cases h
        · cases h
      · cases h
    · cases h
  · cases h

end

end Aw
end Go.Proofs.Ytegjfjckijmgcaa
