/- Each operation gives what is told: the other reading ones. -/
import Derived.Test.YtegjfjckijmgcaaAw5
set_option linter.unusedVariables false
set_option linter.unusedSimpArgs false
namespace Go.Proofs.Ytegjfjckijmgcaa
namespace Aw
section
variable {P : Program} {g : G} {fr : List PV} {a : Act} {o : Oper} {p : PV} {σ' : List AObj}

theorem g_faddr {s : TypeId} {x : Operand} {f off : Nat} (hs : St g) (hf : FR g fr a) (ho : o.op = .fieldAddr s x f)
    (hc : (match P.underlying s with
      | some (.struct fs) => (match fs[f]? with | some fl => fl.offset == off && (match P.info? fl.type with | some i => i.size != 0 | none => false) | none => false)
      | _ => false) = true) (h : ai fr g.σ (.faddr x off) = some (p, σ')) : Gives P g o a p σ' := by
  split at hc
  · rename_i fs hu
    split at hc
    · rename_i fl hfl
      simp only [Bool.and_eq_true, beq_iff_eq] at hc
      obtain ⟨hoff, hsz⟩ := hc
      split at hsz
      · rename_i i hi
        have hsz' : ¬ i.size = 0 := by simpa using hsz
        have hr := hf.ev x
        simp only [ai] at h
        split at h
        · rename_i cs q hx
          rw [hx] at hr
          simp at h; obtain ⟨rfl, rfl⟩ := h
          obtain ⟨ad, e1, e2, e3, e4⟩ := R_fptr.1 hr
          refine Gives.same hs (v := .pointer (some ((ad.add q).add off))) ?_ (R_fptr.2 ⟨ad, by rw [addr_add_add e2], e2, e3, e4⟩)
          unfold execOp
          simp [ho, e1, Instr.fieldAt, run_underlying hu, hfl, Instr.sureAddr, fieldPlace, sizeOf, typeInfo, hi, hsz', hoff]
        · rename_i id ver i' q hx
          rw [hx] at hr
          simp at h; obtain ⟨rfl, rfl⟩ := h
          obtain ⟨ad, e1, sz, es, v', e2, e3, e4⟩ := R_ptr.1 hr
          refine Gives.same hs (v := .pointer (some (ad.add off))) ?_ (R_ptr.2 ⟨_, rfl, sz, es, v', e2, e3, fun hv => ?_⟩)
          · unfold execOp
            simp [ho, e1, Instr.fieldAt, run_underlying hu, hfl, Instr.sureAddr, fieldPlace, sizeOf, typeInfo, hi, hsz', hoff]
          · obtain ⟨k1, b, k2, k3⟩ := e4 hv
            refine ⟨k1, b, k2, ?_⟩
            rw [k3, addr_add_mk, Nat.add_assoc]
        · cases h
      · cases hsz
    · cases hc
  · cases hc

/-- A part of a struct or an array held as a value. -/
theorem run_part {t : TypeId} {cs : List Value} {ps : List PV} {off n : Nat} {agg : Bool} (hc : Rs g ps cs) (ha : aggIs P t agg = true) (hn : (if agg then sizeIs P t n else n == 1) = true)
    (h : (if off + n ≤ ps.length then (if agg then some (PV.agg ((ps.drop off).take n)) else ps[off]?) else none) = some p) :
    ∃ v, (part t cs.toArray off).run P g.w = .ok v g.w ∧ R g p v := by
  split at h
  · rename_i hle
    cases agg with
    | true =>
      simp only [if_true] at h hn
      injection h with h; subst h
      refine ⟨.agg (cs.toArray.extract off (off + n)), ?_, R_agg.2 ⟨(cs.drop off).take n, ?_, (hc.drop off).take n⟩⟩
      · simp [part, aggIs_run ha, sizeIs_run hn]
      · congr 1
        apply Array.ext'
        simp [List.extract_eq_take_drop]
    | false =>
      simp at h hn
      obtain ⟨v, hv1, hv2⟩ := hc.get h
      refine ⟨v, ?_, hv2⟩
      simp [part, aggIs_run ha, hv1]
  · cases h

theorem g_field {s : TypeId} {x : Operand} {f off n : Nat} {agg : Bool} (hs : St g) (hf : FR g fr a) (ho : o.op = .field s x f)
    (hc : (match P.underlying s with
      | some (.struct fs) => (match fs[f]? with | some fl => fl.offset == off && aggIs P fl.type agg && (if agg then sizeIs P fl.type n else n == 1) | none => false)
      | _ => false) = true) (h : ai fr g.σ (.field x off n agg) = some (p, σ')) : Gives P g o a p σ' := by
  split at hc
  · rename_i fs hu
    split at hc
    · rename_i fl hfl
      simp only [Bool.and_eq_true, beq_iff_eq] at hc
      obtain ⟨⟨hoff, hagg⟩, hn⟩ := hc
      have hr := hf.ev x
      simp only [ai] at h
      split at h
      · rename_i ps hx
        rw [hx] at hr
        obtain ⟨cs, e1, e2⟩ := R_agg.1 hr
        have h' : (if off + n ≤ ps.length then (if agg then some (PV.agg ((ps.drop off).take n)) else ps[off]?) else none) = some p ∧ g.σ = σ' := by
          split at h
          · rename_i hle
            rw [if_pos hle]
            cases agg with
            | true => simp at h ⊢; exact h
            | false =>
              simp at h ⊢
              obtain ⟨q, h1, h2, h3⟩ := h
              exact ⟨h2 ▸ h1, h3⟩
          · cases h
        obtain ⟨h1, rfl⟩ := h'
        obtain ⟨v, k1, k2⟩ := run_part (P := P) e2 hagg hn h1
        refine Gives.same hs (v := v) ?_ k2
        unfold execOp
        simp [ho, e1, Instr.field, run_underlying hu, hfl, asAgg, hoff, k1]
      · cases h
    · cases hc
  · cases hc

theorem g_iaddrS {t e : TypeId} {x i : Operand} {sz : Nat} (hs : St g) (hf : FR g fr a) (ho : o.op = .indexAddr t x i) (hu : P.underlying t = some (.slice e)) (hz : sizeIs P e sz = true)
    (h : ai fr g.σ (.iaddrS x i sz) = some (p, σ')) : Gives P g o a p σ' := by
  have hr := hf.ev x
  have hi := hf.ev i
  simp only [ai] at h
  split at h
  · rename_i k n hi'
    rw [hi', R_val] at hi
    split at h
    · rename_i sz' xs ex hx
      rw [hx] at hr
      split at h
      · rename_i hb
        obtain ⟨hb1, hb2, rfl⟩ := hb
        cases hel : xs[n.toNat]? with
        | none => rw [hel] at h; simp at h
        | some el =>
          rw [hel] at h; simp at h; obtain ⟨rfl, rfl⟩ := h
          obtain ⟨ad0, cap, e1, ⟨e2, e2n⟩, e3, e4, e5, e6⟩ := R_list.1 hr
          obtain ⟨ad, rfl, k1, k2, k3⟩ := e6 (by omega)
          have hm := List.mem_of_getElem? hel
          refine Gives.same hs (v := .pointer (some (ad.add (n.toNat * sz')))) ?_ (R_fptr.2 ⟨ad.add (n.toNat * sz'), by rfl, addr_add_spot k1 _, by rw [addr_add_block]; exact k2, fun j q hq => ?_⟩)
          · unfold execOp
            simp [ho, e1, hi, Instr.indexAt, asIntOf, run_underlying hu, hb1, hb2, sizeIs_run hz]
          · have hlt : j < sz' := by
              have := (List.getElem?_eq_some_iff.1 hq).1
              rwa [(e5 el hm).2] at this
            obtain ⟨v, q1, q2⟩ := k3 (n.toNat * sz' + j) q (by rw [flat_get (fun y hy => (e5 y hy).2) hel hlt]; exact hq)
            refine ⟨?_, v, by rw [addr_add_add k1]; exact q1, q2⟩
            have hbel := (e5 el hm).1
            cases el with
            | agg ps =>
              simp only [PV.cells] at hq
              simp only [PV.bel] at hbel
              exact PV.bels_iff.1 hbel q (List.mem_of_getElem? hq)
            | _ =>
              simp only [PV.cells] at hq
              cases j with
              | zero => simp at hq; subst hq; exact hbel
              | succ j => simp at hq
      · cases h
    · rename_i id ver off len hx
      rw [hx] at hr
      split at h
      · rename_i sz' es ver' hσ
        split at h
        · rename_i hb
          obtain ⟨rfl, rfl, hb1, hb2⟩ := hb
          simp at h; obtain ⟨rfl, rfl⟩ := h
          obtain ⟨ad, cap, e1, e2, sz'', es', v'', e3, e4, e5⟩ := R_own.1 hr
          rw [hσ] at e3; simp at e3; obtain ⟨rfl, rfl, rfl⟩ := e3
          obtain ⟨k1, k2⟩ := e5 rfl
          rcases hs.obj id _ _ _ hσ with ⟨b, cs, el, fz, r1, r2, _⟩ | ⟨r1, r2⟩
          · simp only [r1] at k2
            obtain ⟨k3, k4⟩ := k2
            have k3 := k3 (by omega)
            subst k3
            refine Gives.same hs (v := .pointer (some ((⟨b, off * sz', none⟩ : Addr).add (n.toNat * sz')))) ?_ (R_ptr.2 ⟨_, rfl, sz', es, ver, hσ, Nat.le_refl _, fun _ => ⟨by omega, b, r1, ?_⟩⟩)
            · unfold execOp
              simp [ho, e1, hi, Instr.indexAt, asIntOf, run_underlying hu, hb1, hb2, sizeIs_run hz]
            · rw [addr_add_mk, Nat.add_zero, Nat.add_mul]
          · subst r2; simp at k1; omega
        · cases h
      · cases h
    · cases h
  · cases h

theorem g_iaddrA {t e : TypeId} {x i : Operand} {len sz : Nat} (hs : St g) (hf : FR g fr a) (ho : o.op = .indexAddr t x i) (hu : P.underlying t = some (.array len e)) (hz : sizeIs P e sz = true)
    (h : ai fr g.σ (.iaddrA x i len sz) = some (p, σ')) : Gives P g o a p σ' := by
  have hr := hf.ev x
  have hi := hf.ev i
  simp only [ai] at h
  split at h
  · rename_i k n hi'
    rw [hi', R_val] at hi
    split at h
    · rename_i hb
      split at h
      · rename_i cs q hx
        rw [hx] at hr
        simp at h; obtain ⟨rfl, rfl⟩ := h
        obtain ⟨ad, e1, e2, e3, e4⟩ := R_fptr.1 hr
        refine Gives.same hs (v := .pointer (some ((ad.add q).add (n.toNat * sz)))) ?_ (R_fptr.2 ⟨ad, by rw [addr_add_add e2], e2, e3, e4⟩)
        unfold execOp
        simp [ho, e1, hi, Instr.indexAt, asIntOf, run_underlying hu, Instr.sureAddr, hb, sizeIs_run hz]
      · rename_i id ver j q hx
        rw [hx] at hr
        simp at h; obtain ⟨rfl, rfl⟩ := h
        obtain ⟨ad, e1, sz', es, v', e2, e3, e4⟩ := R_ptr.1 hr
        refine Gives.same hs (v := .pointer (some (ad.add (n.toNat * sz)))) ?_ (R_ptr.2 ⟨_, rfl, sz', es, v', e2, e3, fun hv => ?_⟩)
        · unfold execOp
          simp [ho, e1, hi, Instr.indexAt, asIntOf, run_underlying hu, Instr.sureAddr, hb, sizeIs_run hz]
        · obtain ⟨k1, b, k2, k3⟩ := e4 hv
          exact ⟨k1, b, k2, by rw [k3, addr_add_mk, Nat.add_assoc]⟩
      · cases h
    · cases h
  · cases h

theorem bt_get {s : ByteArray} {n : Int} (h0 : 0 ≤ n) (h : n < s.size) : ∃ b, s[n.toNat]? = some b ∧ ((b.toNat : Nat) : Int) = bt s n := by
  have hlt : n.toNat < s.size := by omega
  have hl : n.toNat < s.data.toList.length := by rw [Array.length_toList]; exact hlt
  refine ⟨s[n.toNat], by simp [hlt], ?_⟩
  unfold bt
  rw [List.getD_eq_getElem?_getD, List.getElem?_eq_getElem hl]
  rfl
theorem g_idxStr {t : TypeId} {x i : Operand} (hs : St g) (hf : FR g fr a) (ho : o.op = .index t x i) (hu : P.underlying t = some .string)
    (h : ai fr g.σ (.idxStr x i) = some (p, σ')) : Gives P g o a p σ' := by
  have hr := hf.ev x
  have hi := hf.ev i
  simp only [ai] at h
  split at h
  · rename_i s k n hx hi'
    rw [hx, R_val] at hr
    rw [hi', R_val] at hi
    split at h
    · rename_i hb
      simp at h; obtain ⟨rfl, rfl⟩ := h
      obtain ⟨b, k1, k2⟩ := bt_get hb.1 hb.2
      refine Gives.same hs (v := .int .u8 (bt s n)) ?_ (R_val.2 rfl)
      unfold execOp
      simp [ho, hr, hi, Instr.index, asIntOf, run_underlying hu, hb.1, k1, k2]
    · cases h
  · cases h

theorem g_idxArr {t e : TypeId} {x i : Operand} {len sz : Nat} {agg : Bool} (hs : St g) (hf : FR g fr a) (ho : o.op = .index t x i) (hu : P.underlying t = some (.array len e)) (hz : sizeIs P e sz = true) (ha : aggIs P e agg = true) (h1 : (agg || sz == 1) = true)
    (h : ai fr g.σ (.idxArr x i len sz agg) = some (p, σ')) : Gives P g o a p σ' := by
  have hr := hf.ev x
  have hi := hf.ev i
  simp only [ai] at h
  split at h
  · rename_i ps k n hx hi'
    rw [hx] at hr
    rw [hi', R_val] at hi
    obtain ⟨cs, e1, e2⟩ := R_agg.1 hr
    split at h
    · rename_i hb
      obtain ⟨hb1, hb2, hb3⟩ := hb
      have hle : n.toNat * sz + sz ≤ ps.length := by
        rw [hb3, ← Nat.succ_mul]
        exact Nat.mul_le_mul_right _ (by omega)
      have h' : (if n.toNat * sz + (if agg then sz else 1) ≤ ps.length then (if agg then some (PV.agg ((ps.drop (n.toNat * sz)).take (if agg then sz else 1))) else ps[n.toNat * sz]?) else none) = some p ∧ g.σ = σ' := by
        cases agg with
        | true => simp [hle] at h ⊢; exact h
        | false =>
          simp at h1; subst h1
          simp at h hle ⊢
          obtain ⟨q, h1, h2, h3⟩ := h
          exact ⟨⟨hle, h2 ▸ h1⟩, h3⟩
      obtain ⟨h2, rfl⟩ := h'
      obtain ⟨v, k1, k2⟩ := run_part (P := P) e2 ha (by cases agg <;> simp [hz]) h2
      refine Gives.same hs (v := v) ?_ k2
      unfold execOp
      simp [ho, e1, hi, Instr.index, asIntOf, run_underlying hu, hb1, hb2, sizeIs_run hz, k1]
    · cases h
  · cases h

theorem toList_data (s : ByteArray) : s.toList = s.data.toList := by
  have key : ∀ (n i : Nat) (r : List UInt8), s.size - i = n → ByteArray.toList.loop s i r = r.reverse ++ s.data.toList.drop i := by
    intro n
    induction n with
    | zero =>
      intro i r hn
      unfold ByteArray.toList.loop
      rw [if_neg (by omega), List.drop_eq_nil_of_le (by rw [Array.length_toList]; show s.data.size ≤ i; have : s.size = s.data.size := rfl; omega), List.append_nil]
    | succ n ih =>
      intro i r hn
      unfold ByteArray.toList.loop
      rw [if_pos (by omega), ih (i + 1) _ (by omega)]
      have hl : i < s.data.toList.length := by rw [Array.length_toList]; have : s.size = s.data.size := rfl; omega
      rw [List.drop_eq_getElem_cons hl]
      have hg : s.get! i = s.data.toList[i] := by
        have hs : i < s.data.size := by have : s.size = s.data.size := rfl; omega
        simp [ByteArray.get!, getElem!_def, Array.getElem?_eq_getElem hs]
      simp [hg]
  rw [ByteArray.toList, key s.size 0 [] (by omega)]
  simp

theorem beq_int (n m : Int) : (n == m) = decide (n = m) := by rw [Bool.eq_iff_iff]; simp
theorem bin_run {op : BinOp} {t : TypeId} {u v w' : Value} (h : binV op u v = some w') (x y : Operand) : (do eqGuard op t x y u v; binOp op t u v : Sem Value).run P g.w = .ok w' g.w := by
  have hg : (eqGuard op t x y u v).run P g.w = .ok () g.w := by
    unfold eqGuard
    unfold binV at h
    split at h
    · split <;> rfl
    · split <;> rfl
    · cases h
  rw [Sem.run_bind, hg]
  simp only [Result.andThen_ok]
  unfold binV at h
  split at h
  · rename_i k n k' m
    by_cases hs1 : op = .shl
    · subst hs1
      simp only [intShift] at h
      split at h
      · cases h
      · rename_i hn
        injection h with h; subst h
        simp [binOp, Op.shift, hn]
    by_cases hs2 : op = .shr
    · subst hs2
      simp only [intShift] at h
      split at h
      · cases h
      · rename_i hn
        injection h with h; subst h
        simp [binOp, Op.shift, hn]
    have h2 : (if k = k' then intBin op k n m else none) = some w' := by
      cases op <;> first | exact absurd rfl hs1 | exact absurd rfl hs2 | exact h
    clear h
    by_cases hk : k = k'
    · subst hk
      rw [if_pos rfl] at h2
      by_cases hd : op = .quo ∨ op = .rem
      · by_cases hm : m = 0
        · rcases hd with rfl | rfl <;> simp [intBin, hm] at h2
        · rcases hd with rfl | rfl <;> simp [intBin, hm] at h2 <;> subst h2 <;> simp [binOp, Op.intDiv, hm]
      · cases op <;> first
          | exact absurd rfl hs1
          | exact absurd rfl hs2
          | (simp at hd; done)
          | (simp only [intBin] at h2
             injection h2 with h2; subst h2
             simp [binOp, Op.intArith, Op.intBits, Op.intCmp, beq_int, bne, Int.not_le, Int.not_lt])
    · rw [if_neg hk] at h2; cases h2
  · rename_i n m
    unfold strBin at h
    split at h <;> first
      | (split at h
         · rename_i hle; injection h with h; subst h
           have : ¬ ((9223372036854775807 : Int) < (n.size : Int) + (m.size : Int)) := by omega
           simp [binOp, Op.stringOp, IntKind.max, IntKind.signed, IntKind.bits, this]
         · cases h)
      | (injection h with h; subst h
         have hb : (n.data.toList == m.data.toList) = decide (n = m) := by
           rw [Bool.eq_iff_iff]; simp
           constructor
           · intro e; cases n; cases m; simp at e; rw [e]
           · intro e; rw [e]
         simp [binOp, Op.stringOp, toList_data, hb]; done)
      | cases h
  · cases h
theorem g_bin {op : BinOp} {t t' : TypeId} {x y : Operand} (hs : St g) (hf : FR g fr a) (ho : o.op = .binOp op t x y t')
    (h : ai fr g.σ (.bin op x y) = some (p, σ')) : Gives P g o a p σ' := by
  have hx := hf.ev x
  have hy := hf.ev y
  simp only [ai] at h
  split at h
  · rename_i u v hu hv
    rw [hu, R_val] at hx
    rw [hv, R_val] at hy
    cases hb : binV op u v with
    | none => rw [hb] at h; simp at h
    | some w' =>
      rw [hb] at h; simp at h; obtain ⟨rfl, rfl⟩ := h
      refine Gives.same hs (v := w') ?_ (R_val.2 rfl)
      have := bin_run (P := P) (g := g) (t := t) hb x y
      unfold execOp
      simp only [ho, hx, hy]
      simp only [Sem.run_bind] at this ⊢
      rw [this]
      rfl
  · cases h
end

end Aw
end Go.Proofs.Ytegjfjckijmgcaa
