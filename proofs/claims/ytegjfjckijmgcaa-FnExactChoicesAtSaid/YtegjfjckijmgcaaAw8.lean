/- Each operation gives what is told: lengths, cuts, structs put together. -/
import Derived.Test.YtegjfjckijmgcaaAw7
import Derived.Laws.Small
set_option linter.unusedVariables false
set_option linter.unusedSimpArgs false
namespace Go.Proofs.Ytegjfjckijmgcaa
namespace Aw
section
variable {P : Program} {g : G} {fr : List PV} {a : Act} {o : Oper} {p : PV} {σ' : List AObj}

theorem isLen_eq {c : Call} (h : isLen c = true) : c.callee = .builtin .len := by
  unfold isLen at h
  split at h
  · assumption
  · cases h
theorem isAppend_eq {c : Call} (h : isAppend c = true) : c.callee = .builtin .append := by
  unfold isAppend at h
  split at h
  · assumption
  · cases h
theorem g_idxb {c : Call} {f : FuncId} {x y : Operand} (hs : St g) (hf : FR g fr a) (ho : o.op = .call c) (hc : isIdxb P c f = true) (hx : oeqs c.args.toList [x, y] = true)
    (h : ai fr g.σ (.idxb f x y) = some (p, σ')) : Gives P g o a p σ' := by
  have hr := hf.ev x
  have hi := hf.ev y
  have hargs : c.args = #[x, y] := by have := oeqs_eq hx; apply Array.ext'; simpa using this
  simp only [isIdxb, Bool.and_eq_true] at hc
  obtain ⟨h1, h2⟩ := hc
  split at h1
  · rename_i f' hcal
    simp only [beq_iff_eq] at h1; subst h1
    split at h2
    · rename_i fn hfn
      simp only [Bool.and_eq_true, beq_iff_eq] at h2
      obtain ⟨⟨hn, hor⟩, hb⟩ := h2
      simp only [ai] at h
      split at h
      · rename_i s n e1 e2
        rw [e1, R_val] at hr
        rw [e2, R_val] at hi
        simp at h; obtain ⟨rfl, rfl⟩ := h
        refine Gives.same hs (v := .int .i64 (firstIdx s n.toNat.toUInt8)) ?_ (R_val.2 rfl)
        have hfind : Extern.find fn = some Extern.BytealgIndexByte.indexByte := by
          unfold Extern.find
          simp only [hn]
          rfl
        have hnext : Extern.findNext fn = none := by
          unfold Extern.findNext
          simp only [hn, hor]
          rfl
        have hrun := run_callFunc_extern (P := P) hfn (by rw [hn]; rfl) hb hnext hfind #[.string s, .int .u8 n] g.w
        rw [run_indexByte_string] at hrun
        unfold execOp
        simp only [ho, Sem.run_bind, resolve, hcal, Act.eval, Deferred.ofValue, Sem.run_pure, Result.andThen_ok, invoke, hargs]
        simp [hr, hi, hrun]
      · cases h
    · cases h2
  · cases h1

theorem g_mx {c : Call} {x y : Operand} (hs : St g) (hf : FR g fr a) (ho : o.op = .call c) (hc : isMax c = true) (hx : oeqs c.args.toList [x, y] = true)
    (h : ai fr g.σ (.mx x y) = some (p, σ')) : Gives P g o a p σ' := by
  have hr := hf.ev x
  have hi := hf.ev y
  have hargs : c.args = #[x, y] := by have := oeqs_eq hx; apply Array.ext'; simpa using this
  have hcal : c.callee = .builtin .max := by
    unfold isMax at hc
    split at hc
    · assumption
    · cases hc
  simp only [ai] at h
  split at h
  · rename_i k m k' n e1 e2
    rw [e1, R_val] at hr
    rw [e2, R_val] at hi
    simp at h; obtain ⟨rfl, rfl⟩ := h
    refine Gives.same hs (v := .int k (max m n)) ?_ (R_val.2 rfl)
    have hm : (if n > m then n else m) = max m n := by split <;> omega
    unfold execOp
    have hmm : (Builtin.max_ c.argTypes o.type #[.int k m, .int k' n]).run P g.w = .ok (.int k (max m n)) g.w := by
      have := run_max_int2 (P := P) (w := g.w) c.argTypes o.type k k' m n
      rw [hm] at this; exact this
    simp [ho, resolve, hcal, hargs, hr, hi, invoke, builtin, hmm]
  · cases h

theorem g_len {c : Call} {x : Operand} {str : Bool} (hs : St g) (hf : FR g fr a) (ho : o.op = .call c) (hc : isLen c = true) (hx : oeqs c.args.toList [x] = true) (ht : lenTypes P str c.argTypes.toList = true)
    (h : ai fr g.σ (.len str x) = some (p, σ')) : Gives P g o a p σ' := by
  have hr := hf.ev x
  have hcal := isLen_eq hc
  have hargs : c.args = #[x] := by have := oeqs_eq hx; apply Array.ext'; simpa using this
  unfold lenTypes at ht
  split at ht
  · rename_i t hts
    have htypes : c.argTypes = #[t] := by apply Array.ext'; simpa using hts
    simp only [ai] at h
    unfold lenType at ht
    split at ht
    · rename_i e he
      simp at ht; subst ht
      simp only [Bool.false_eq_true, if_false] at h
      cases hq : lenA (aev fr x) with
      | none => rw [hq] at h; simp at h
      | some n =>
        rw [hq] at h; simp at h; obtain ⟨rfl, rfl⟩ := h
        have hform : ∃ q cap, a.eval x = .slice q n cap := by
          unfold lenA at hq
          split at hq
          · rename_i e; rw [e] at hr; injection hq with hq; subst hq; obtain ⟨q, cap, e1, _⟩ := R_list.1 hr; exact ⟨q, cap, e1⟩
          · rename_i e; rw [e] at hr; injection hq with hq; subst hq; obtain ⟨q, cap, e1, _⟩ := R_tl.1 hr; exact ⟨q, cap, e1⟩
          · rename_i e; rw [e] at hr; injection hq with hq; subst hq; obtain ⟨q, cap, e1, _⟩ := R_own.1 hr; exact ⟨q, cap, e1⟩
          · rename_i e; rw [e, R_val] at hr; injection hq with hq; subst hq; exact ⟨_, _, hr⟩
          · cases hq
        obtain ⟨q, cap, e1⟩ := hform
        refine Gives.same hs (v := .int .i64 n) ?_ (R_val.2 rfl)
        unfold execOp
        simp [ho, resolve, hcal, hargs, htypes, e1, invoke, builtin, Builtin.len_, run_underlying he, goInt]
    · rename_i he
      subst ht
      simp only [if_true] at h
      cases hq : lenS (aev fr x) with
      | none => rw [hq] at h; simp at h
      | some n =>
        rw [hq] at h; simp at h; obtain ⟨rfl, rfl⟩ := h
        have hform : ∃ s, a.eval x = .string s ∧ s.size = n := by
          unfold lenS at hq
          split at hq
          · rename_i s e; rw [e, R_val] at hr; injection hq with hq; exact ⟨s, hr, hq⟩
          · cases hq
        obtain ⟨s, e1, e2⟩ := hform
        refine Gives.same hs (v := .int .i64 n) ?_ (R_val.2 rfl)
        unfold execOp
        simp [ho, resolve, hcal, hargs, htypes, e1, invoke, builtin, Builtin.len_, run_underlying he, goInt, e2]
    · cases ht
  · cases ht

theorem bnd_run {d m : Nat} {x : Option Operand} (hf : FR g fr a) (h : bnd fr d x = some m) : (x = none ∧ m = d) ∨ ∃ y k n, x = some y ∧ a.eval y = .int k n ∧ 0 ≤ n ∧ n.toNat = m := by
  unfold bnd at h
  split at h
  · injection h with h; exact .inl ⟨rfl, h.symm⟩
  · rename_i y
    split at h
    · rename_i k n hy
      have hr := hf.ev y
      rw [hy, R_val] at hr
      split at h
      · rename_i h0; injection h with h; exact .inr ⟨y, k, n, rfl, hr, h0, h⟩
      · cases h
    · cases h

theorem g_slcStr {t : TypeId} {x : Operand} {lo hi : Option Operand} (hs : St g) (hf : FR g fr a) (ho : o.op = .slice t x lo hi none) (hu : P.underlying t = some .string)
    (h : ai fr g.σ (.slcStr x lo hi) = some (p, σ')) : Gives P g o a p σ' := by
  have hr := hf.ev x
  simp only [ai] at h
  split at h
  · rename_i s hx
    rw [hx, R_val] at hr
    split at h
    · rename_i hh l e1 e2
      split at h
      · rename_i hb
        obtain ⟨hb1, hb2⟩ := hb
        simp at h; obtain ⟨rfl, rfl⟩ := h
        refine Gives.same hs (v := .string (s.extract l hh)) ?_ (R_val.2 rfl)
        unfold execOp
        rcases bnd_run hf e1 with ⟨rfl, rfl⟩ | ⟨y, k, n, rfl, e3, e4, e5⟩ <;> rcases bnd_run hf e2 with ⟨rfl, rfl⟩ | ⟨y2, k2, n2, rfl, e6, e7, e8⟩
        · simp [ho, hr, Instr.sliceAt, run_underlying hu, Instr.slice, Instr.sliceBounds]
        · have : n2 ≤ s.size := by omega
          simp [ho, hr, Instr.sliceAt, run_underlying hu, Instr.slice, Instr.sliceBounds, Instr.sliceBound, asIntOf, e6, e7, this, e8]
        · have : n ≤ s.size := by omega
          simp [ho, hr, Instr.sliceAt, run_underlying hu, Instr.slice, Instr.sliceBounds, Instr.sliceBound, asIntOf, e3, e4, this, e5]
        · have h1 : n ≤ s.size := by omega
          have h2 : n2 ≤ hh := by omega
          simp [ho, hr, Instr.sliceAt, run_underlying hu, Instr.slice, Instr.sliceBounds, Instr.sliceBound, asIntOf, e3, e4, h1, e5, e6, e7, h2, e8]
      · cases h
    · cases h
  · cases h

/-- The bounds of a cut of a slice. -/
theorem run_bounds {len cap l h m : Nat} {lo hi mx : Option Operand} (hf : FR g fr a) (hh : bnd fr len hi = some h) (hl : bnd fr 0 lo = some l) (hm : (mx = none ∧ m = cap) ∨ (∃ y, mx = some y ∧ bnd fr 0 (some y) = some m ∧ hi.isSome = true))
    (h1 : l ≤ h) (h2 : h ≤ m) (h3 : m ≤ cap) : (Instr.sliceBounds true len cap (lo.map a.eval) (hi.map a.eval) (mx.map a.eval)).run P g.w = .ok (l, h, m) g.w := by
  rcases hm with ⟨rfl, rfl⟩ | ⟨ym, rfl, hm, hsome⟩
  · rcases bnd_run hf hh with ⟨rfl, rfl⟩ | ⟨y, k, n, rfl, e3, e4, e5⟩ <;> rcases bnd_run hf hl with ⟨rfl, rfl⟩ | ⟨y2, k2, n2, rfl, e6, e7, e8⟩
    · simp [Instr.sliceBounds]
    · have : n2 ≤ h := by omega
      simp [Instr.sliceBounds, Instr.sliceBound, asIntOf, e6, e7, this, e8]
    · have : n ≤ m := by omega
      simp [Instr.sliceBounds, Instr.sliceBound, asIntOf, e3, e4, this, e5]
    · have h1 : n ≤ m := by omega
      have h2 : n2 ≤ h := by omega
      simp [Instr.sliceBounds, Instr.sliceBound, asIntOf, e3, e4, h1, e5, e6, e7, h2, e8]
  · rcases bnd_run hf hm with ⟨hno, _⟩ | ⟨y0, k0, n0, hy0, f3, f4, f5⟩
    · cases hno
    · injection hy0 with hy0; subst hy0
      have hmc : n0 ≤ cap := by omega
      rcases bnd_run hf hh with ⟨rfl, rfl⟩ | ⟨y, k, n, rfl, e3, e4, e5⟩
      · simp at hsome
      · have hnm : n ≤ m := by omega
        rcases bnd_run hf hl with ⟨rfl, rfl⟩ | ⟨y2, k2, n2, rfl, e6, e7, e8⟩
        · simp [Instr.sliceBounds, Instr.sliceBound, asIntOf, e3, e4, hnm, e5, f3, f4, f5, hmc]
        · have h2 : n2 ≤ h := by omega
          simp [Instr.sliceBounds, Instr.sliceBound, asIntOf, e3, e4, hnm, e5, f3, f4, f5, hmc, e6, e7, h2, e8]

theorem flat_drop {es : List PV} {sz : Nat} (h : ∀ x ∈ es, x.cells.length = sz) (l : Nat) (hl : l ≤ es.length) : (es.drop l).flatMap PV.cells = (es.flatMap PV.cells).drop (l * sz) := by
  induction l generalizing es with
  | zero => simp
  | succ l ih =>
    cases es with
    | nil => simp at hl
    | cons e es =>
      have he := h e (List.mem_cons_self ..)
      have h1 : List.drop ((l + 1) * sz) e.cells = [] := List.drop_eq_nil_of_le (by rw [he, Nat.add_mul]; omega)
      rw [List.drop_succ_cons, List.flatMap_cons, ih (fun x hx => h x (List.mem_cons_of_mem _ hx)) (by simpa using hl), List.drop_append, h1, he, List.nil_append]
      congr 1
      rw [Nat.add_mul]; omega

theorem g_slcS {t e : TypeId} {x : Operand} {lo hi mx : Option Operand} {sz : Nat} (hs : St g) (hf : FR g fr a) (ho : o.op = .slice t x lo hi mx) (hu : P.underlying t = some (.slice e)) (hz : sizeIs P e sz = true)
    (hm : mx.isSome = true → hi.isSome = true) (h : ai fr g.σ (.slcS x lo hi mx sz) = some (p, σ')) : Gives P g o a p σ' := by
  have hr := hf.ev x
  simp only [ai] at h
  split at h
  · rename_i sz' xs ex hx
    rw [hx] at hr
    obtain ⟨ad, cap, e1, ⟨e2, e2n⟩, e3, e4, e5, e6⟩ := R_list.1 hr
    split at h
    · rename_i hh l k1 k2
      split at h
      · rename_i hb
        obtain ⟨hb1, hb2, rfl⟩ := hb
        have key : ∀ (m : Nat) (ex' : Bool), ((mx = none ∧ m = cap) ∨ (∃ y, mx = some y ∧ bnd fr 0 (some y) = some m ∧ hi.isSome = true)) → hh ≤ m → m ≤ cap → (ex' = true → m = hh) →
            Gives P g o a (.list sz' ((xs.take hh).drop l) ex') g.σ := by
          intro m ex' hmx h1 h2 h3
          have hrun := run_bounds (P := P) hf k1 k2 hmx hb1 h1 h2
          have hlen : ((xs.take hh).drop l).length = hh - l := by simp; omega
          have hmem : ∀ y ∈ (xs.take hh).drop l, y ∈ xs := fun y hy => List.mem_of_mem_take (List.mem_of_mem_drop hy)
          refine Gives.same hs (v := .slice (if m = l then ad else ad.map (·.add (l * sz'))) (hh - l) (m - l)) ?_ (R_list.2 ⟨_, m - l, by rw [hlen], ⟨by omega, fun hq => by
            split at hq
            · omega
            · have := e2n (by simpa using hq); omega⟩, by omega, fun he => by rw [hlen, h3 he], fun y hy => e5 y (hmem y hy), fun h0 => ?_⟩)
          · unfold execOp
            simp [ho, e1, Instr.sliceAt, run_underlying hu, Instr.slice, hrun, sizeIs_run hz]
          · rw [hlen] at h0
            obtain ⟨b, rfl, q2, q3, q4⟩ := e6 (by omega)
            refine ⟨b.add (l * sz'), by rw [if_neg (by omega)]; rfl, addr_add_spot q2 _, by rw [addr_add_block]; exact q3, fun j q hq => ?_⟩
            rw [addr_add_add q2]
            apply q4
            rw [flat_drop (sz := sz') (fun y hy => (e5 y (List.mem_of_mem_take hy)).2) l (by simp; omega), List.getElem?_drop] at hq
            rw [← List.take_append_drop hh xs, List.flatMap_append, List.getElem?_append_left]
            · exact hq
            · exact (List.getElem?_eq_some_iff.1 hq).1
        cases mx with
        | none =>
          simp at h
          obtain ⟨rfl, rfl⟩ := h
          exact key cap _ (.inl ⟨rfl, rfl⟩) (by omega) (Nat.le_refl _) (fun he => by simp at he; rw [e4 he.1, he.2])
        | some m0 =>
          simp only at h
          cases hm0 : bnd fr 0 (some m0) with
          | none => rw [hm0] at h; simp at h
          | some m =>
            rw [hm0] at h
            simp only at h
            split at h
            · rename_i hb3
              simp at h
              obtain ⟨rfl, rfl⟩ := h
              exact key m _ (.inr ⟨m0, rfl, hm0, hm rfl⟩) hb3.1 (by omega) (fun he => by simp at he; omega)
            · cases h
      · cases h
    · cases h
  · rename_i id ver off len hx
    rw [hx] at hr
    split at h
    · rename_i sz' es ver' hh l hσ k1 k2
      split at h
      · rename_i hb
        obtain ⟨hb1, hb2, rfl, rfl, hb5⟩ := hb
        simp at h; obtain ⟨rfl, rfl⟩ := h
        have hmx : mx = none := by simpa using hb5
        subst hmx
        obtain ⟨ad, cap, e1, e2, sz'', es', v'', e3, e4, e5⟩ := R_own.1 hr
        rw [hσ] at e3; simp at e3; obtain ⟨rfl, rfl, rfl⟩ := e3
        obtain ⟨q1, q2⟩ := e5 rfl
        have hrun := run_bounds (P := P) (mx := none) (cap := cap) hf k1 k2 (.inl ⟨rfl, rfl⟩) hb1 (by omega) (Nat.le_refl _)
        refine Gives.same hs (v := .slice (if cap = l then ad else ad.map (·.add (l * sz'))) (hh - l) (cap - l)) ?_ (R_own.2 ⟨_, cap - l, rfl, by omega, sz', es, ver, hσ, Nat.le_refl _, fun _ => ⟨by omega, ?_⟩⟩)
        · unfold execOp
          simp [ho, e1, Instr.sliceAt, run_underlying hu, Instr.slice, sizeIs_run hz]
          simp at hrun
          simp [hrun]
        · cases hρ : g.ρ[id]? with
          | none => simp only [hρ] at q2 ⊢; omega
          | some ob =>
            cases ob with
            | none => simp only [hρ] at q2 ⊢; omega
            | some b =>
              simp only [hρ] at q2 ⊢
              obtain ⟨r1, s, r2, r3⟩ := q2
              refine ⟨fun h0 => ?_, s, r2, ?_⟩
              · rw [if_neg (by omega), r1 (by omega)]
                simp [addr_add_mk, Nat.add_mul]
              · refine Nat.le_trans (Nat.mul_le_mul_right _ ?_) r3
                omega
      · cases h
    · cases h
  · rename_i hx
    rw [hx, R_val] at hr
    split at h
    · rename_i k1 k2 k3
      simp at h; obtain ⟨rfl, rfl⟩ := h
      have hrun := run_bounds (P := P) (len := 0) (cap := 0) (m := 0) (mx := mx) hf k1 k2 (by
        cases mx with
        | none => exact .inl ⟨rfl, rfl⟩
        | some y => exact .inr ⟨y, rfl, k3, hm rfl⟩) (Nat.le_refl _) (Nat.le_refl _) (Nat.le_refl _)
      refine Gives.same hs (v := .slice none 0 0) ?_ (R_val.2 rfl)
      unfold execOp
      simp [ho, hr, Instr.sliceAt, run_underlying hu, Instr.slice, hrun, sizeIs_run hz]
    · cases h
  · cases h
end

end Aw
end Go.Proofs.Ytegjfjckijmgcaa
