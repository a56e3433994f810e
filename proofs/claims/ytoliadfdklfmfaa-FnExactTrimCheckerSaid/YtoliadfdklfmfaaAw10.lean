/- Each operation gives what is told: the other reading ones. Each operation gives what is told: equality, conversions, parts, cuts. Each operation gives what is told: lengths, cuts, structs put together. Each operation gives what is told: those that make memory. Each operation gives what is told: stores, appends, literals. -/
import Derived.Test.YtoliadfdklfmfaaAw5
import Derived.Laws.StructEq
import Derived.Laws.Small
set_option linter.unusedVariables false
set_option linter.unusedSimpArgs false
namespace Go.Proofs.Ytoliadfdklfmfaa
namespace Aw
section
variable {P : Program} {g : G} {fr : List PV} {a : Act} {o : Oper} {p : PV} {σ' : List AObj}

theorem g_faddr {s : TypeId} {x : Operand} {f off : Nat} (hs : St g) (hf : FR g fr a) (ho : o.op = .fieldAddr s x f)
    (hc : (match P.underlying s with
      | some (.struct fs) => (match fs[f]? with | some fl => fl.offset == off && (match P.info? fl.type with | some i => i.size != 0 | none => false) | none => false)
      | _ => false) = true) (h : ai fr g.σ (.faddr x off) = some (p, σ')) : Gives P g o a p σ' := by
  split at hc
  · rename_i fs hu
    split at hc
    · rename_i fl hfl
      simp only [Bool.and_eq_true, beq_iff_eq] at hc
      obtain ⟨hoff, hsz⟩ := hc
      split at hsz
      · rename_i i hi
        have hsz' : ¬ i.size = 0 := by simpa using hsz
        have hr := hf.ev x
        simp only [ai] at h
        split at h
        · rename_i cs q hx
          rw [hx] at hr
          simp at h; obtain ⟨rfl, rfl⟩ := h
          obtain ⟨ad, e1, e2, e3, e4⟩ := R_fptr.1 hr
          refine Gives.same hs (v := .pointer (some ((ad.add q).add off))) ?_ (R_fptr.2 ⟨ad, by rw [addr_add_add e2], e2, e3, e4⟩)
          unfold execOp
          simp [ho, e1, Instr.fieldAt, run_underlying hu, hfl, Instr.sureAddr, fieldPlace, sizeOf, typeInfo, hi, hsz', hoff]
        · rename_i id ver i' q hx
          rw [hx] at hr
          simp at h; obtain ⟨rfl, rfl⟩ := h
          obtain ⟨ad, e1, sz, es, v', e2, e3, e4⟩ := R_ptr.1 hr
          refine Gives.same hs (v := .pointer (some (ad.add off))) ?_ (R_ptr.2 ⟨_, rfl, sz, es, v', e2, e3, fun hv => ?_⟩)
          · unfold execOp
            simp [ho, e1, Instr.fieldAt, run_underlying hu, hfl, Instr.sureAddr, fieldPlace, sizeOf, typeInfo, hi, hsz', hoff]
          · obtain ⟨k1, b, k2, k3⟩ := e4 hv
            refine ⟨k1, b, k2, ?_⟩
            rw [k3, addr_add_mk, Nat.add_assoc]
        · cases h
      · cases hsz
    · cases hc
  · cases hc

/-- A part of a struct or an array held as a value. -/
theorem run_part {t : TypeId} {cs : List Value} {ps : List PV} {off n : Nat} {agg : Bool} (hc : Rs g ps cs) (ha : aggIs P t agg = true) (hn : (if agg then sizeIs P t n else n == 1) = true)
    (h : (if off + n ≤ ps.length then (if agg then some (PV.agg ((ps.drop off).take n)) else ps[off]?) else none) = some p) :
    ∃ v, (part t cs.toArray off).run P g.w = .ok v g.w ∧ R g p v := by
  split at h
  · rename_i hle
    cases agg with
    | true =>
      simp only [if_true] at h hn
      injection h with h; subst h
      refine ⟨.agg (cs.toArray.extract off (off + n)), ?_, R_agg.2 ⟨(cs.drop off).take n, ?_, (hc.drop off).take n⟩⟩
      · simp [part, aggIs_run ha, sizeIs_run hn]
      · congr 1
        apply Array.ext'
        simp [List.extract_eq_take_drop]
    | false =>
      simp at h hn
      obtain ⟨v, hv1, hv2⟩ := hc.get h
      refine ⟨v, ?_, hv2⟩
      simp [part, aggIs_run ha, hv1]
  · cases h

theorem g_field {s : TypeId} {x : Operand} {f off n : Nat} {agg : Bool} (hs : St g) (hf : FR g fr a) (ho : o.op = .field s x f)
    (hc : (match P.underlying s with
      | some (.struct fs) => (match fs[f]? with | some fl => fl.offset == off && aggIs P fl.type agg && (if agg then sizeIs P fl.type n else n == 1) | none => false)
      | _ => false) = true) (h : ai fr g.σ (.field x off n agg) = some (p, σ')) : Gives P g o a p σ' := by
  split at hc
  · rename_i fs hu
    split at hc
    · rename_i fl hfl
      simp only [Bool.and_eq_true, beq_iff_eq] at hc
      obtain ⟨⟨hoff, hagg⟩, hn⟩ := hc
      have hr := hf.ev x
      simp only [ai] at h
      split at h
      · rename_i ps hx
        rw [hx] at hr
        obtain ⟨cs, e1, e2⟩ := R_agg.1 hr
        have h' : (if off + n ≤ ps.length then (if agg then some (PV.agg ((ps.drop off).take n)) else ps[off]?) else none) = some p ∧ g.σ = σ' := by
          split at h
          · rename_i hle
            rw [if_pos hle]
            cases agg with
            | true => simp at h ⊢; exact h
            | false =>
              simp at h ⊢
              obtain ⟨q, h1, h2, h3⟩ := h
              exact ⟨h2 ▸ h1, h3⟩
          · cases h
        obtain ⟨h1, rfl⟩ := h'
        obtain ⟨v, k1, k2⟩ := run_part (P := P) e2 hagg hn h1
        refine Gives.same hs (v := v) ?_ k2
        unfold execOp
        simp [ho, e1, Instr.field, run_underlying hu, hfl, asAgg, hoff, k1]
      · cases h
    · cases hc
  · cases hc

theorem g_iaddrS {t e : TypeId} {x i : Operand} {sz : Nat} (hs : St g) (hf : FR g fr a) (ho : o.op = .indexAddr t x i) (hu : P.underlying t = some (.slice e)) (hz : sizeIs P e sz = true)
    (h : ai fr g.σ (.iaddrS x i sz) = some (p, σ')) : Gives P g o a p σ' := by
  have hr := hf.ev x
  have hi := hf.ev i
  simp only [ai] at h
  split at h
  · rename_i k n hi'
    rw [hi', R_val] at hi
    split at h
    · rename_i sz' xs ex hx
      rw [hx] at hr
      split at h
      · rename_i hb
        obtain ⟨hb1, hb2, rfl⟩ := hb
        cases hel : xs[n.toNat]? with
        | none => rw [hel] at h; simp at h
        | some el =>
          rw [hel] at h; simp at h; obtain ⟨rfl, rfl⟩ := h
          obtain ⟨ad0, cap, e1, ⟨e2, e2n⟩, e3, e4, e5, e6⟩ := R_list.1 hr
          obtain ⟨ad, rfl, k1, k2, k3⟩ := e6 (by omega)
          have hm := List.mem_of_getElem? hel
          refine Gives.same hs (v := .pointer (some (ad.add (n.toNat * sz')))) ?_ (R_fptr.2 ⟨ad.add (n.toNat * sz'), by rfl, addr_add_spot k1 _, by rw [addr_add_block]; exact k2, fun j q hq => ?_⟩)
          · unfold execOp
            simp [ho, e1, hi, Instr.indexAt, asIntOf, run_underlying hu, hb1, hb2, sizeIs_run hz]
          · have hlt : j < sz' := by
              have := (List.getElem?_eq_some_iff.1 hq).1
              rwa [(e5 el hm).2] at this
            obtain ⟨v, q1, q2⟩ := k3 (n.toNat * sz' + j) q (by rw [flat_get (fun y hy => (e5 y hy).2) hel hlt]; exact hq)
            refine ⟨?_, v, by rw [addr_add_add k1]; exact q1, q2⟩
            have hbel := (e5 el hm).1
            cases el with
            | agg ps =>
              simp only [PV.cells] at hq
              simp only [PV.bel] at hbel
              exact PV.bels_iff.1 hbel q (List.mem_of_getElem? hq)
            | _ =>
              simp only [PV.cells] at hq
              cases j with
              | zero => simp at hq; subst hq; exact hbel
              | succ j => simp at hq
      · cases h
    · rename_i id ver off len hx
      rw [hx] at hr
      split at h
      · rename_i sz' es ver' hσ
        split at h
        · rename_i hb
          obtain ⟨rfl, rfl, hb1, hb2⟩ := hb
          simp at h; obtain ⟨rfl, rfl⟩ := h
          obtain ⟨ad, cap, e1, e2, sz'', es', v'', e3, e4, e5⟩ := R_own.1 hr
          rw [hσ] at e3; simp at e3; obtain ⟨rfl, rfl, rfl⟩ := e3
          obtain ⟨k1, k2⟩ := e5 rfl
          rcases hs.obj id _ _ _ hσ with ⟨b, cs, el, fz, r1, r2, _⟩ | ⟨r1, r2⟩
          · simp only [r1] at k2
            obtain ⟨k3, k4⟩ := k2
            have k3 := k3 (by omega)
            subst k3
            refine Gives.same hs (v := .pointer (some ((⟨b, off * sz', none⟩ : Addr).add (n.toNat * sz')))) ?_ (R_ptr.2 ⟨_, rfl, sz', es, ver, hσ, Nat.le_refl _, fun _ => ⟨by omega, b, r1, ?_⟩⟩)
            · unfold execOp
              simp [ho, e1, hi, Instr.indexAt, asIntOf, run_underlying hu, hb1, hb2, sizeIs_run hz]
            · rw [addr_add_mk, Nat.add_zero, Nat.add_mul]
          · subst r2; simp at k1; omega
        · cases h
      · cases h
    · cases h
  · cases h

theorem g_iaddrA {t e : TypeId} {x i : Operand} {len sz : Nat} (hs : St g) (hf : FR g fr a) (ho : o.op = .indexAddr t x i) (hu : P.underlying t = some (.array len e)) (hz : sizeIs P e sz = true)
    (h : ai fr g.σ (.iaddrA x i len sz) = some (p, σ')) : Gives P g o a p σ' := by
  have hr := hf.ev x
  have hi := hf.ev i
  simp only [ai] at h
  split at h
  · rename_i k n hi'
    rw [hi', R_val] at hi
    split at h
    · rename_i hb
      split at h
      · rename_i cs q hx
        rw [hx] at hr
        simp at h; obtain ⟨rfl, rfl⟩ := h
        obtain ⟨ad, e1, e2, e3, e4⟩ := R_fptr.1 hr
        refine Gives.same hs (v := .pointer (some ((ad.add q).add (n.toNat * sz)))) ?_ (R_fptr.2 ⟨ad, by rw [addr_add_add e2], e2, e3, e4⟩)
        unfold execOp
        simp [ho, e1, hi, Instr.indexAt, asIntOf, run_underlying hu, Instr.sureAddr, hb, sizeIs_run hz]
      · rename_i id ver j q hx
        rw [hx] at hr
        simp at h; obtain ⟨rfl, rfl⟩ := h
        obtain ⟨ad, e1, sz', es, v', e2, e3, e4⟩ := R_ptr.1 hr
        refine Gives.same hs (v := .pointer (some (ad.add (n.toNat * sz)))) ?_ (R_ptr.2 ⟨_, rfl, sz', es, v', e2, e3, fun hv => ?_⟩)
        · unfold execOp
          simp [ho, e1, hi, Instr.indexAt, asIntOf, run_underlying hu, Instr.sureAddr, hb, sizeIs_run hz]
        · obtain ⟨k1, b, k2, k3⟩ := e4 hv
          exact ⟨k1, b, k2, by rw [k3, addr_add_mk, Nat.add_assoc]⟩
      · cases h
    · cases h
  · cases h

theorem bt_get {s : ByteArray} {n : Int} (h0 : 0 ≤ n) (h : n < s.size) : ∃ b, s[n.toNat]? = some b ∧ ((b.toNat : Nat) : Int) = bt s n := by
  have hlt : n.toNat < s.size := by omega
  have hl : n.toNat < s.data.toList.length := by rw [Array.length_toList]; exact hlt
  refine ⟨s[n.toNat], by simp [hlt], ?_⟩
  unfold bt
  rw [List.getD_eq_getElem?_getD, List.getElem?_eq_getElem hl]
  rfl
theorem g_idxStr {t : TypeId} {x i : Operand} (hs : St g) (hf : FR g fr a) (ho : o.op = .index t x i) (hu : P.underlying t = some .string)
    (h : ai fr g.σ (.idxStr x i) = some (p, σ')) : Gives P g o a p σ' := by
  have hr := hf.ev x
  have hi := hf.ev i
  simp only [ai] at h
  split at h
  · rename_i s k n hx hi'
    rw [hx, R_val] at hr
    rw [hi', R_val] at hi
    split at h
    · rename_i hb
      simp at h; obtain ⟨rfl, rfl⟩ := h
      obtain ⟨b, k1, k2⟩ := bt_get hb.1 hb.2
      refine Gives.same hs (v := .int .u8 (bt s n)) ?_ (R_val.2 rfl)
      unfold execOp
      simp [ho, hr, hi, Instr.index, asIntOf, run_underlying hu, hb.1, k1, k2]
    · cases h
  · cases h

theorem g_idxArr {t e : TypeId} {x i : Operand} {len sz : Nat} {agg : Bool} (hs : St g) (hf : FR g fr a) (ho : o.op = .index t x i) (hu : P.underlying t = some (.array len e)) (hz : sizeIs P e sz = true) (ha : aggIs P e agg = true) (h1 : (agg || sz == 1) = true)
    (h : ai fr g.σ (.idxArr x i len sz agg) = some (p, σ')) : Gives P g o a p σ' := by
  have hr := hf.ev x
  have hi := hf.ev i
  simp only [ai] at h
  split at h
  · rename_i ps k n hx hi'
    rw [hx] at hr
    rw [hi', R_val] at hi
    obtain ⟨cs, e1, e2⟩ := R_agg.1 hr
    split at h
    · rename_i hb
      obtain ⟨hb1, hb2, hb3⟩ := hb
      have hle : n.toNat * sz + sz ≤ ps.length := by
        rw [hb3, ← Nat.succ_mul]
        exact Nat.mul_le_mul_right _ (by omega)
      have h' : (if n.toNat * sz + (if agg then sz else 1) ≤ ps.length then (if agg then some (PV.agg ((ps.drop (n.toNat * sz)).take (if agg then sz else 1))) else ps[n.toNat * sz]?) else none) = some p ∧ g.σ = σ' := by
        cases agg with
        | true => simp [hle] at h ⊢; exact h
        | false =>
          simp at h1; subst h1
          simp at h hle ⊢
          obtain ⟨q, h1, h2, h3⟩ := h
          exact ⟨⟨hle, h2 ▸ h1⟩, h3⟩
      obtain ⟨h2, rfl⟩ := h'
      obtain ⟨v, k1, k2⟩ := run_part (P := P) e2 ha (by cases agg <;> simp [hz]) h2
      refine Gives.same hs (v := v) ?_ k2
      unfold execOp
      simp [ho, e1, hi, Instr.index, asIntOf, run_underlying hu, hb1, hb2, sizeIs_run hz, k1]
    · cases h
  · cases h

theorem toList_data (s : ByteArray) : s.toList = s.data.toList := by
  have key : ∀ (n i : Nat) (r : List UInt8), s.size - i = n → ByteArray.toList.loop s i r = r.reverse ++ s.data.toList.drop i := by
    intro n
    induction n with
    | zero =>
      intro i r hn
      unfold ByteArray.toList.loop
      rw [if_neg (by omega), List.drop_eq_nil_of_le (by rw [Array.length_toList]; show s.data.size ≤ i; have : s.size = s.data.size := rfl; omega), List.append_nil]
    | succ n ih =>
      intro i r hn
      unfold ByteArray.toList.loop
      rw [if_pos (by omega), ih (i + 1) _ (by omega)]
      have hl : i < s.data.toList.length := by rw [Array.length_toList]; have : s.size = s.data.size := rfl; omega
      rw [List.drop_eq_getElem_cons hl]
      have hg : s.get! i = s.data.toList[i] := by
        have hs : i < s.data.size := by have : s.size = s.data.size := rfl; omega
        simp [ByteArray.get!, getElem!_def, Array.getElem?_eq_getElem hs]
      simp [hg]
  rw [ByteArray.toList, key s.size 0 [] (by omega)]
  simp

theorem beq_int (n m : Int) : (n == m) = decide (n = m) := by rw [Bool.eq_iff_iff]; simp
theorem bin_run {op : BinOp} {t : TypeId} {u v w' : Value} (h : binV op u v = some w') (x y : Operand) : (do eqGuard op t x y u v; binOp op t u v : Sem Value).run P g.w = .ok w' g.w := by
  have hg : (eqGuard op t x y u v).run P g.w = .ok () g.w := by
    unfold eqGuard
    unfold binV at h
    split at h
    · split <;> rfl
    · split <;> rfl
    · cases h
  rw [Sem.run_bind, hg]
  simp only [Result.andThen_ok]
  unfold binV at h
  split at h
  · rename_i k n k' m
    by_cases hs1 : op = .shl
    · subst hs1
      simp only [intShift] at h
      split at h
      · cases h
      · rename_i hn
        injection h with h; subst h
        simp [binOp, Op.shift, hn]
    by_cases hs2 : op = .shr
    · subst hs2
      simp only [intShift] at h
      split at h
      · cases h
      · rename_i hn
        injection h with h; subst h
        simp [binOp, Op.shift, hn]
    have h2 : (if k = k' then intBin op k n m else none) = some w' := by
      cases op <;> first | exact absurd rfl hs1 | exact absurd rfl hs2 | exact h
    clear h
    by_cases hk : k = k'
    · subst hk
      rw [if_pos rfl] at h2
      by_cases hd : op = .quo ∨ op = .rem
      · by_cases hm : m = 0
        · rcases hd with rfl | rfl <;> simp [intBin, hm] at h2
        · rcases hd with rfl | rfl <;> simp [intBin, hm] at h2 <;> subst h2 <;> simp [binOp, Op.intDiv, hm]
      · cases op <;> first
          | exact absurd rfl hs1
          | exact absurd rfl hs2
          | (simp at hd; done)
          | (simp only [intBin] at h2
             injection h2 with h2; subst h2
             simp [binOp, Op.intArith, Op.intBits, Op.intCmp, beq_int, bne, Int.not_le, Int.not_lt])
    · rw [if_neg hk] at h2; cases h2
  · rename_i n m
    unfold strBin at h
    split at h <;> first
      | (split at h
         · rename_i hle; injection h with h; subst h
           have : ¬ ((9223372036854775807 : Int) < (n.size : Int) + (m.size : Int)) := by omega
           simp [binOp, Op.stringOp, IntKind.max, IntKind.signed, IntKind.bits, this]
         · cases h)
      | (injection h with h; subst h
         have hb : (n.data.toList == m.data.toList) = decide (n = m) := by
           rw [Bool.eq_iff_iff]; simp
           constructor
           · intro e; cases n; cases m; simp at e; rw [e]
           · intro e; rw [e]
         simp [binOp, Op.stringOp, toList_data, hb]; done)
      | cases h
  · cases h
theorem g_bin {op : BinOp} {t t' : TypeId} {x y : Operand} (hs : St g) (hf : FR g fr a) (ho : o.op = .binOp op t x y t')
    (h : ai fr g.σ (.bin op x y) = some (p, σ')) : Gives P g o a p σ' := by
  have hx := hf.ev x
  have hy := hf.ev y
  simp only [ai] at h
  split at h
  · rename_i u v hu hv
    rw [hu, R_val] at hx
    rw [hv, R_val] at hy
    cases hb : binV op u v with
    | none => rw [hb] at h; simp at h
    | some w' =>
      rw [hb] at h; simp at h; obtain ⟨rfl, rfl⟩ := h
      refine Gives.same hs (v := w') ?_ (R_val.2 rfl)
      have := bin_run (P := P) (g := g) (t := t) hb x y
      unfold execOp
      simp only [ho, hx, hy]
      simp only [Sem.run_bind] at this ⊢
      rw [this]
      rfl
  · cases h
end

end Aw
end Go.Proofs.Ytoliadfdklfmfaa

set_option linter.unusedVariables false
set_option linter.unusedSimpArgs false
namespace Go.Proofs.Ytoliadfdklfmfaa
namespace Aw
section
variable {P : Program} {g : G} {fr : List PV} {a : Act} {o : Oper} {p : PV} {σ' : List AObj}

/-! ### Equality -/
theorem beq_bool (x y : Bool) : (x == y) = decide (x = y) := by cases x <;> cases y <;> rfl
theorem beq_bytes (x y : ByteArray) : (x == y) = decide (x = y) := by
  rw [beq_toListBytes, toList_data, toList_data, Bool.eq_iff_iff]
  simp
  constructor
  · intro e; cases x; cases y; simp at e; rw [e]
  · intro e; rw [e]
theorem eqV_run {t : TypeId} {k : FK} {x y : PV} {u v : Value} {b : Bool} {d : Nat} (h : eqV k x y = some b) (hx : R g x u) (hy : R g y v) (hk : fkIs P t k = true) (w : World) :
    (Op.equalIn (d + 1) t u v).run P w = .ok b w := by
  unfold eqV at h
  split at h
  · rw [R_val] at hx hy; subst hx; subst hy
    injection h with h; subst h
    simp [Op.equalIn, run_underlying (isBool_eq hk), beq_bool]
  · rw [R_val] at hx hy; subst hx; subst hy
    split at h
    · rename_i he
      obtain ⟨rfl, rfl⟩ := he
      injection h with h; subst h
      simp [Op.equalIn, run_underlying (isInt_eq hk), beq_int]
    · cases h
  · rw [R_val] at hx hy; subst hx; subst hy
    injection h with h; subst h
    simp [Op.equalIn, run_underlying (isStr_eq hk), beq_bytes]
  · cases h
theorem g_eqb {neg : Bool} {t t' : TypeId} {x y : Operand} (hs : St g) (hf : FR g fr a) (ho : o.op = .binOp (if neg then BinOp.neq else BinOp.eql) t x y t') (hb : P.underlying t = some .bool)
    (h : ai fr g.σ (.eqb neg x y) = some (p, σ')) : Gives P g o a p σ' := by
  have hx := hf.ev x
  have hy := hf.ev y
  simp only [ai] at h
  cases hq : eqV .b (aev fr x) (aev fr y) with
  | none => rw [hq] at h; simp at h
  | some b =>
    rw [hq] at h; simp at h; obtain ⟨rfl, rfl⟩ := h
    have hk : fkIs P t .b = true := by simp [fkIs, isBool, hb]
    have hr := eqV_run (P := P) (d := 9999) hq hx hy hk g.w
    have hub : ∃ m n, a.eval x = .bool m ∧ a.eval y = .bool n := by
      unfold eqV at hq
      split at hq
      · rename_i m n h1 h2 h3
        rw [h2, R_val] at hx; rw [h3, R_val] at hy
        exact ⟨m, n, hx, hy⟩
      · rename_i h1 _ _; cases h1
      · rename_i h1 _ _; cases h1
      · cases hq
    obtain ⟨m, n, e1, e2⟩ := hub
    rw [e1, e2] at hr
    refine Gives.same hs (v := .bool (if neg then !b else b)) ?_ (R_val.2 rfl)
    unfold execOp
    cases neg <;> simp [ho, e1, e2, eqGuard, binOp, Op.equal, Op.maxDepth, hr]

theorem eqVs_run {d : Nat} {w : World} {us0 vs0 : List Value} : ∀ {fs : List Field} {n : Nat} {ks : List FK} {xs ys : List PV} {us vs : List Value} {b : Bool}, eqVs ks xs ys = some b → flatFrom P fs n ks = true →
    us0.drop n = us → vs0.drop n = vs → Rs g xs us → Rs g ys vs → (Op.eqFields (d + 1) us0.toArray vs0.toArray fs).run P w = .ok b w := by
  intro fs
  induction fs with
  | nil =>
    intro n ks xs ys us vs b h hf _ _ _ _
    cases ks with
    | nil =>
      cases xs with
      | nil => cases ys with
        | nil => simp [eqVs] at h; subst h; simp [Op.eqFields]
        | cons y ys => simp [eqVs] at h
      | cons x xs => simp [eqVs] at h
    | cons k ks => simp [flatFrom] at hf
  | cons f fs ih =>
    intro n ks xs ys us vs b h hf hu hv hx hy
    cases ks with
    | nil => simp [flatFrom] at hf
    | cons k ks =>
      simp only [flatFrom, Bool.and_eq_true, beq_iff_eq, bne_iff_ne] at hf
      obtain ⟨⟨⟨⟨h1, h2⟩, h3⟩, h4⟩, h5⟩ := hf
      cases xs with
      | nil => simp [eqVs] at h
      | cons x xs =>
        cases ys with
        | nil => simp [eqVs] at h
        | cons y ys =>
          simp only [eqVs] at h
          split at h
          · rename_i b1 c1 e1 e2
            injection h with h; subst h
            obtain ⟨u, hu1, hu2⟩ := hx.get (j := 0) (q := x) (by simp)
            obtain ⟨v, hv1, hv2⟩ := hy.get (j := 0) (q := y) (by simp)
            have gu : us0[n]? = some u := by rw [← hu] at hu1; simpa using hu1
            have gv : vs0[n]? = some v := by rw [← hv] at hv1; simpa using hv1
            have pu : (part f.type us0.toArray f.offset).run P w = .ok u w := by simp [part, aggIs_run h4, h1, gu]
            have pv : (part f.type vs0.toArray f.offset).run P w = .ok v w := by simp [part, aggIs_run h4, h1, gv]
            have he := eqV_run (P := P) (d := d) e1 hu2 hv2 h3 w
            have hrest := ih (n := n + 1) (us := us.drop 1) (vs := vs.drop 1) e2 h5 (by rw [← hu, List.drop_drop, Nat.add_comm]) (by rw [← hv, List.drop_drop, Nat.add_comm]) (hx.drop 1) (hy.drop 1)
            cases b1 <;> simp [Op.eqFields, h2, pu, pv, he, hrest]
          · cases h

theorem g_eqst {neg : Bool} {ks : List FK} {t t' : TypeId} {x y : Operand} (hs : St g) (hf : FR g fr a) (ho : o.op = .binOp (if neg then BinOp.neq else BinOp.eql) t x y t') (hfl : isFlat P t ks = true) (hg : P.eqGuardType P.depth t = false)
    (h : ai fr g.σ (.eqst neg ks x y) = some (p, σ')) : Gives P g o a p σ' := by
  have hx := hf.ev x
  have hy := hf.ev y
  simp only [ai] at h
  split at h
  · rename_i ps qs e1 e2
    rw [e1] at hx; rw [e2] at hy
    obtain ⟨us, hu1, hu2⟩ := R_agg.1 hx
    obtain ⟨vs, hv1, hv2⟩ := R_agg.1 hy
    cases hq : eqVs ks ps qs with
    | none => rw [hq] at h; simp at h
    | some b =>
      rw [hq] at h; simp at h; obtain ⟨rfl, rfl⟩ := h
      unfold isFlat at hfl
      split at hfl
      · rename_i fs hfs
        simp only [Bool.and_eq_true, Bool.not_eq_true'] at hfl
        have hfo : P.underlying t = some (.struct (P.fieldsOf t)) := by simp [Program.fieldsOf, hfs]
        have hfl1 : flatFrom P (P.fieldsOf t).toList 0 ks = true := by simp [Program.fieldsOf, hfs, hfl.1]
        have hr := eqVs_run (P := P) (d := 9998) (w := g.w) hq hfl1 (List.drop_zero (l := us)) (List.drop_zero (l := vs)) hu2 hv2
        have he : (Op.equalIn 10000 t (.agg us.toArray) (.agg vs.toArray)).run P g.w = .ok b g.w := by
          rw [run_equalIn_struct g.w 9999 t _ _ hfo hfl.2, hr]
        refine Gives.same hs (v := .bool (if neg then !b else b)) ?_ (R_val.2 rfl)
        unfold execOp
        cases neg with
        | true => simp [ho, hu1, hv1, run_eqGuard_agg g.w _ t x y _ _ hg, run_neq_struct, he]
        | false => simp [ho, hu1, hv1, run_eqGuard_agg g.w _ t x y _ _ hg, run_eql_struct, he]
      · cases hfl
  · cases h

theorem eqnil_run {k : NK} {t : TypeId} {x : PV} {u : Value} {b : Bool} {d : Nat} (h : nilA k x = some b) (hx : R g x u) (ht : nilType P t k = true) (w : World) :
    (Op.equalIn (d + 1) t u (nilOf k)).run P w = .ok b w ∧ (Op.equalIn (d + 1) t (nilOf k) u).run P w = .ok b w := by
  unfold nilA at h
  split at h
  · rw [R_val] at hx; subst hx; injection h with h; subst h
    simp only [nilType] at ht; split at ht
    · rename_i e he; simp [nilOf, Op.equalIn, run_underlying he]
    · cases ht
  · obtain ⟨a, cap, rfl, ⟨_, hsm⟩, _⟩ := R_tl.1 hx; injection h with h; subst h
    simp only [nilType] at ht; split at ht
    · rename_i e he
      cases a with
      | none => cases hsm
      | some ad => simp [nilOf, Op.equalIn, run_underlying he]
    · cases ht
  · obtain ⟨a, cap, rfl, _, _, _, _, h6⟩ := R_list.1 hx; injection h with h; subst h
    obtain ⟨ad, rfl, _⟩ := h6 (by simp)
    simp only [nilType] at ht; split at ht
    · rename_i e he; simp [nilOf, Op.equalIn, run_underlying he]
    · cases ht
  · rw [R_val] at hx; subst hx; injection h with h; subst h
    simp only [nilType] at ht; split at ht
    · rename_i e he; simp [nilOf, Op.equalIn, run_underlying he]
    · cases ht
  · obtain ⟨ad, rfl, _⟩ := R_fptr.1 hx; injection h with h; subst h
    simp only [nilType] at ht; split at ht
    · rename_i e he; simp [nilOf, Op.equalIn, run_underlying he]
    · cases ht
  · obtain ⟨ad, rfl, _⟩ := R_ptr.1 hx; injection h with h; subst h
    simp only [nilType] at ht; split at ht
    · rename_i e he; simp [nilOf, Op.equalIn, run_underlying he]
    · cases ht
  · rw [R_val] at hx; subst hx; injection h with h; subst h
    simp only [nilType] at ht; split at ht
    · rename_i e he; simp [nilOf, Op.equalIn, run_underlying he]
    · cases ht
  · obtain ⟨ad, rfl, _⟩ := R_fn.1 hx; injection h with h; subst h
    simp only [nilType] at ht; split at ht
    · rename_i e he; simp [nilOf, Op.equalIn, run_underlying he]
    · cases ht
  · cases h
theorem nil_form {k : NK} {x : PV} {u : Value} {b : Bool} (h : nilA k x = some b) (hx : R g x u) : (∃ a m c, u = .slice a m c) ∨ (∃ q, u = .pointer q) ∨ u = .nilFunc ∨ (∃ f c d, u = .func f c d) := by
  unfold nilA at h
  split at h
  · rw [R_val] at hx; exact .inl ⟨_, _, _, hx⟩
  · obtain ⟨a, cap, e, _⟩ := R_tl.1 hx; exact .inl ⟨_, _, _, e⟩
  · obtain ⟨a, cap, e, _⟩ := R_list.1 hx; exact .inl ⟨_, _, _, e⟩
  · rw [R_val] at hx; exact .inr (.inl ⟨_, hx⟩)
  · obtain ⟨ad, e, _⟩ := R_fptr.1 hx; exact .inr (.inl ⟨_, e⟩)
  · obtain ⟨ad, e, _⟩ := R_ptr.1 hx; exact .inr (.inl ⟨_, e⟩)
  · rw [R_val] at hx; exact .inr (.inr (.inl hx))
  · obtain ⟨ad, e, _⟩ := R_fn.1 hx; exact .inr (.inr (.inr ⟨_, _, _, e⟩))
  · cases h
theorem g_eqnil {neg left : Bool} {t t' : TypeId} {x y x' : Operand} {k : NK} (hs : St g) (hf : FR g fr a) (ho : o.op = .binOp (if neg then BinOp.neq else BinOp.eql) t x y t')
    (hx' : (if left then y else x) = x') (ht : nilType P t k = true) (hn : (if left then x else y) = .const (nilOf k))
    (h : ai fr g.σ (.eqnil neg left k x') = some (p, σ')) : Gives P g o a p σ' := by
  simp only [ai] at h
  cases hq : nilA k (aev fr x') with
  | none => rw [hq] at h; simp at h
  | some b =>
    rw [hq] at h; simp at h; obtain ⟨rfl, rfl⟩ := h
    have hr := hf.ev x'
    obtain ⟨r1, r2⟩ := eqnil_run (P := P) (d := 9999) hq hr ht g.w
    refine Gives.same hs (v := .bool (if neg then !b else b)) ?_ (R_val.2 rfl)
    have hform := nil_form hq hr
    unfold execOp
    cases left with
    | false =>
      simp at hx' hn; subst hx'; subst hn
      have he : ∀ v, a.eval (.const v) = v := fun _ => rfl
      rcases hform with ⟨_, _, _, e⟩ | ⟨_, e⟩ | e | ⟨_, _, _, e⟩ <;> rw [e] at r1 <;> cases neg <;> cases k <;> simp [nilOf] at r1 <;> simp [ho, e, he, nilOf, eqGuard, binOp, Op.equal, Op.maxDepth, r1]
    | true =>
      simp at hx' hn; subst hx'; subst hn
      have he : ∀ v, a.eval (.const v) = v := fun _ => rfl
      rcases hform with ⟨_, _, _, e⟩ | ⟨_, e⟩ | e | ⟨_, _, _, e⟩ <;> rw [e] at r2 <;> cases neg <;> cases k <;> simp [nilOf] at r2 <;> simp [ho, e, he, nilOf, eqGuard, binOp, Op.equal, Op.maxDepth, r2]

/-! ### Others -/
theorem g_un {op : UnOp} {t : TypeId} {x : Operand} (hs : St g) (hf : FR g fr a) (ho : o.op = .unOp op t x) (h : ai fr g.σ (.un op x) = some (p, σ')) : Gives P g o a p σ' := by
  have hr := hf.ev x
  cases op with
  | not =>
    simp only [ai] at h
    split at h
    · rename_i b hx
      rw [hx, R_val] at hr
      simp at h; obtain ⟨rfl, rfl⟩ := h
      refine Gives.same hs (v := .bool (!b)) ?_ (R_val.2 rfl)
      unfold execOp; simp [ho, hr, Op.unary]
    · cases h
  | neg =>
    simp only [ai] at h
    split at h
    · rename_i k n hx
      rw [hx, R_val] at hr
      simp at h; obtain ⟨rfl, rfl⟩ := h
      refine Gives.same hs (v := .int k (k.wrap (-n))) ?_ (R_val.2 (by simp))
      unfold execOp; simp [ho, hr, Op.unary, Op.intArith]
    · cases h
  | _ => simp [ai] at h
theorem g_conv {src dst : TypeId} {x : Operand} {k k' : IntKind} (hs : St g) (hf : FR g fr a) (ho : o.op = .convert src dst x) (hsrc : P.underlying src = some (.int k')) (hdst : P.underlying dst = some (.int k))
    (h : ai fr g.σ (.conv k x) = some (p, σ')) : Gives P g o a p σ' := by
  have hr := hf.ev x
  simp only [ai] at h
  split at h
  · rename_i k1 n hx
    rw [hx, R_val] at hr
    simp at h; obtain ⟨rfl, rfl⟩ := h
    refine Gives.same hs (v := .int k (k.wrap n)) ?_ (R_val.2 rfl)
    unfold execOp; simp [ho, hr, convert, run_underlying hsrc, run_underlying hdst, Conv.intToInt]
  · cases h
theorem g_ext {x : Operand} {i : Nat} (hs : St g) (hf : FR g fr a) (ho : o.op = .extract x i) (h : ai fr g.σ (.ext x i) = some (p, σ')) : Gives P g o a p σ' := by
  have hr := hf.ev x
  simp only [ai] at h
  split at h
  · rename_i ps hx
    rw [hx] at hr
    obtain ⟨cs, e1, e2⟩ := R_tup.1 hr
    cases hq : ps[i]? with
    | none => rw [hq] at h; simp at h
    | some q =>
      rw [hq] at h; simp at h; obtain ⟨rfl, rfl⟩ := h
      obtain ⟨v, k1, k2⟩ := e2.get hq
      refine Gives.same hs (v := v) ?_ k2
      unfold execOp; simp [ho, e1, Instr.extract, k1]
  · cases h
theorem g_nilc {x : Operand} (hs : St g) (hf : FR g fr a) (ho : o.op = .nilCheck x) (h : ai fr g.σ (.nilc x) = some (p, σ')) : Gives P g o a p σ' := by
  have hr := hf.ev x
  simp only [ai] at h
  split at h
  · rename_i cs q hx
    simp at h; obtain ⟨rfl, rfl⟩ := h
    rw [hx] at hr
    obtain ⟨ad, e, _⟩ := R_fptr.1 hr
    refine Gives.same hs (v := a.eval x) ?_ hr
    unfold execOp; simp [ho, e]
  · rename_i id ver i q hx
    simp at h; obtain ⟨rfl, rfl⟩ := h
    rw [hx] at hr
    obtain ⟨ad, e, _⟩ := R_ptr.1 hr
    refine Gives.same hs (v := a.eval x) ?_ hr
    unfold execOp; simp [ho, e]
  · rename_i f caps hx
    simp at h; obtain ⟨rfl, rfl⟩ := h
    rw [hx] at hr
    obtain ⟨cs, e, _⟩ := R_fn.1 hr
    refine Gives.same hs (v := a.eval x) ?_ hr
    unfold execOp; simp [ho, e]
  · cases h
theorem g_mkfn {f : FuncId} {caps : Array Operand} (hs : St g) (hf : FR g fr a) (ho : o.op = .makeFunc (.func f) #[] caps) : Gives P g o a (.fn f (caps.toList.map (aev fr))) g.σ := by
  refine Gives.same hs (v := .func (.func f) #[] (caps.map a.eval)) ?_ (R_fn.2 ⟨caps.toList.map a.eval, ?_, ?_⟩)
  · unfold execOp; simp [ho, Instr.makeFunc]
  · congr 1; apply Array.ext'; simp
  · refine ⟨by simp, fun j q v hq hv => ?_⟩
    simp at hq hv
    obtain ⟨x, hx, rfl⟩ := hq
    obtain ⟨y, hy, rfl⟩ := hv
    rw [hx] at hy; injection hy with hy; subst hy
    exact hf.ev x

end

end Aw
end Go.Proofs.Ytoliadfdklfmfaa

set_option linter.unusedVariables false
set_option linter.unusedSimpArgs false
namespace Go.Proofs.Ytoliadfdklfmfaa
namespace Aw
section
variable {P : Program} {g : G} {fr : List PV} {a : Act} {o : Oper} {p : PV} {σ' : List AObj}

theorem isLen_eq {c : Call} (h : isLen c = true) : c.callee = .builtin .len := by
  unfold isLen at h
  split at h
  · assumption
  · cases h
theorem isCap_eq {c : Call} (h : isCap c = true) : c.callee = .builtin .cap := by
  unfold isCap at h
  split at h
  · assumption
  · cases h
theorem isAppend_eq {c : Call} (h : isAppend c = true) : c.callee = .builtin .append := by
  unfold isAppend at h
  split at h
  · assumption
  · cases h
theorem g_idxb {c : Call} {f : FuncId} {x y : Operand} (hs : St g) (hf : FR g fr a) (ho : o.op = .call c) (hc : isIdxb P c f = true) (hx : oeqs c.args.toList [x, y] = true)
    (h : ai fr g.σ (.idxb f x y) = some (p, σ')) : Gives P g o a p σ' := by
  have hr := hf.ev x
  have hi := hf.ev y
  have hargs : c.args = #[x, y] := by have := oeqs_eq hx; apply Array.ext'; simpa using this
  simp only [isIdxb, Bool.and_eq_true] at hc
  obtain ⟨h1, h2⟩ := hc
  split at h1
  · rename_i f' hcal
    simp only [beq_iff_eq] at h1; subst h1
    split at h2
    · rename_i fn hfn
      simp only [Bool.and_eq_true, beq_iff_eq] at h2
      obtain ⟨⟨hn, hor⟩, hb⟩ := h2
      simp only [ai] at h
      split at h
      · rename_i s n e1 e2
        rw [e1, R_val] at hr
        rw [e2, R_val] at hi
        simp at h; obtain ⟨rfl, rfl⟩ := h
        refine Gives.same hs (v := .int .i64 (firstIdx s n.toNat.toUInt8)) ?_ (R_val.2 rfl)
        have hfind : Extern.find fn = some Extern.BytealgIndexByte.indexByte := by
          unfold Extern.find
          simp only [hn]
          rfl
        have hnext : Extern.findNext fn = none := by
          unfold Extern.findNext
          simp only [hn, hor]
          rfl
        have hrun := run_callFunc_extern (P := P) hfn (by rw [hn]; rfl) hb hnext hfind #[.string s, .int .u8 n] g.w
        rw [run_indexByte_string] at hrun
        unfold execOp
        simp only [ho, Sem.run_bind, resolve, hcal, Act.eval, Deferred.ofValue, Sem.run_pure, Result.andThen_ok, invoke, hargs]
        simp [hr, hi, hrun]
      · cases h
    · cases h2
  · cases h1

theorem g_mx {c : Call} {x y : Operand} (hs : St g) (hf : FR g fr a) (ho : o.op = .call c) (hc : isMax c = true) (hx : oeqs c.args.toList [x, y] = true)
    (h : ai fr g.σ (.mx x y) = some (p, σ')) : Gives P g o a p σ' := by
  have hr := hf.ev x
  have hi := hf.ev y
  have hargs : c.args = #[x, y] := by have := oeqs_eq hx; apply Array.ext'; simpa using this
  have hcal : c.callee = .builtin .max := by
    unfold isMax at hc
    split at hc
    · assumption
    · cases hc
  simp only [ai] at h
  split at h
  · rename_i k m k' n e1 e2
    rw [e1, R_val] at hr
    rw [e2, R_val] at hi
    simp at h; obtain ⟨rfl, rfl⟩ := h
    refine Gives.same hs (v := .int k (max m n)) ?_ (R_val.2 rfl)
    have hm : (if n > m then n else m) = max m n := by split <;> omega
    unfold execOp
    have hmm : (Builtin.max_ c.argTypes o.type #[.int k m, .int k' n]).run P g.w = .ok (.int k (max m n)) g.w := by
      have := run_max_int2 (P := P) (w := g.w) c.argTypes o.type k k' m n
      rw [hm] at this; exact this
    simp [ho, resolve, hcal, hargs, hr, hi, invoke, builtin, hmm]
  · cases h

theorem g_cap {c : Call} {x : Operand} (hs : St g) (hf : FR g fr a) (ho : o.op = .call c) (hc : isCap c = true) (hx : oeqs c.args.toList [x] = true) (ht : lenTypes P false c.argTypes.toList = true)
    (h : ai fr g.σ (.cap x) = some (p, σ')) : Gives P g o a p σ' := by
  have hr := hf.ev x
  have hcal := isCap_eq hc
  have hargs : c.args = #[x] := by have := oeqs_eq hx; apply Array.ext'; simpa using this
  unfold lenTypes at ht
  split at ht
  · rename_i t hts
    have htypes : c.argTypes = #[t] := by apply Array.ext'; simpa using hts
    simp only [ai] at h
    unfold lenType at ht
    split at ht
    · rename_i e he
      cases hq : capA (aev fr x) with
      | none => rw [hq] at h; simp at h
      | some n =>
        rw [hq] at h; simp at h; obtain ⟨rfl, rfl⟩ := h
        have hform : ∃ q l, a.eval x = .slice q l n := by
          unfold capA at hq
          split at hq
          · rename_i e; rw [e] at hr; injection hq with hq; subst hq; obtain ⟨q, cap, e1, _, _, e2, _⟩ := R_list.1 hr; rw [e2 rfl] at e1; exact ⟨q, _, e1⟩
          · rename_i e; rw [e, R_val] at hr; injection hq with hq; subst hq; exact ⟨_, _, hr⟩
          · cases hq
        obtain ⟨q, l, e1⟩ := hform
        refine Gives.same hs (v := .int .i64 n) ?_ (R_val.2 rfl)
        unfold execOp
        simp [ho, resolve, hcal, hargs, htypes, e1, invoke, builtin, Builtin.cap_, run_underlying he, goInt]
    · cases ht
    · cases ht
  · cases ht
theorem g_len {c : Call} {x : Operand} {str : Bool} (hs : St g) (hf : FR g fr a) (ho : o.op = .call c) (hc : isLen c = true) (hx : oeqs c.args.toList [x] = true) (ht : lenTypes P str c.argTypes.toList = true)
    (h : ai fr g.σ (.len str x) = some (p, σ')) : Gives P g o a p σ' := by
  have hr := hf.ev x
  have hcal := isLen_eq hc
  have hargs : c.args = #[x] := by have := oeqs_eq hx; apply Array.ext'; simpa using this
  unfold lenTypes at ht
  split at ht
  · rename_i t hts
    have htypes : c.argTypes = #[t] := by apply Array.ext'; simpa using hts
    simp only [ai] at h
    unfold lenType at ht
    split at ht
    · rename_i e he
      simp at ht; subst ht
      simp only [Bool.false_eq_true, if_false] at h
      cases hq : lenA (aev fr x) with
      | none => rw [hq] at h; simp at h
      | some n =>
        rw [hq] at h; simp at h; obtain ⟨rfl, rfl⟩ := h
        have hform : ∃ q cap, a.eval x = .slice q n cap := by
          unfold lenA at hq
          split at hq
          · rename_i e; rw [e] at hr; injection hq with hq; subst hq; obtain ⟨q, cap, e1, _⟩ := R_list.1 hr; exact ⟨q, cap, e1⟩
          · rename_i e; rw [e] at hr; injection hq with hq; subst hq; obtain ⟨q, cap, e1, _⟩ := R_tl.1 hr; exact ⟨q, cap, e1⟩
          · rename_i e; rw [e] at hr; injection hq with hq; subst hq; obtain ⟨q, cap, e1, _⟩ := R_own.1 hr; exact ⟨q, cap, e1⟩
          · rename_i e; rw [e, R_val] at hr; injection hq with hq; subst hq; exact ⟨_, _, hr⟩
          · cases hq
        obtain ⟨q, cap, e1⟩ := hform
        refine Gives.same hs (v := .int .i64 n) ?_ (R_val.2 rfl)
        unfold execOp
        simp [ho, resolve, hcal, hargs, htypes, e1, invoke, builtin, Builtin.len_, run_underlying he, goInt]
    · rename_i he
      subst ht
      simp only [if_true] at h
      cases hq : lenS (aev fr x) with
      | none => rw [hq] at h; simp at h
      | some n =>
        rw [hq] at h; simp at h; obtain ⟨rfl, rfl⟩ := h
        have hform : ∃ s, a.eval x = .string s ∧ s.size = n := by
          unfold lenS at hq
          split at hq
          · rename_i s e; rw [e, R_val] at hr; injection hq with hq; exact ⟨s, hr, hq⟩
          · cases hq
        obtain ⟨s, e1, e2⟩ := hform
        refine Gives.same hs (v := .int .i64 n) ?_ (R_val.2 rfl)
        unfold execOp
        simp [ho, resolve, hcal, hargs, htypes, e1, invoke, builtin, Builtin.len_, run_underlying he, goInt, e2]
    · cases ht
  · cases ht

theorem bnd_run {d m : Nat} {x : Option Operand} (hf : FR g fr a) (h : bnd fr d x = some m) : (x = none ∧ m = d) ∨ ∃ y k n, x = some y ∧ a.eval y = .int k n ∧ 0 ≤ n ∧ n.toNat = m := by
  unfold bnd at h
  split at h
  · injection h with h; exact .inl ⟨rfl, h.symm⟩
  · rename_i y
    split at h
    · rename_i k n hy
      have hr := hf.ev y
      rw [hy, R_val] at hr
      split at h
      · rename_i h0; injection h with h; exact .inr ⟨y, k, n, rfl, hr, h0, h⟩
      · cases h
    · cases h

theorem g_slcStr {t : TypeId} {x : Operand} {lo hi : Option Operand} (hs : St g) (hf : FR g fr a) (ho : o.op = .slice t x lo hi none) (hu : P.underlying t = some .string)
    (h : ai fr g.σ (.slcStr x lo hi) = some (p, σ')) : Gives P g o a p σ' := by
  have hr := hf.ev x
  simp only [ai] at h
  split at h
  · rename_i s hx
    rw [hx, R_val] at hr
    split at h
    · rename_i hh l e1 e2
      split at h
      · rename_i hb
        obtain ⟨hb1, hb2⟩ := hb
        simp at h; obtain ⟨rfl, rfl⟩ := h
        refine Gives.same hs (v := .string (s.extract l hh)) ?_ (R_val.2 rfl)
        unfold execOp
        rcases bnd_run hf e1 with ⟨rfl, rfl⟩ | ⟨y, k, n, rfl, e3, e4, e5⟩ <;> rcases bnd_run hf e2 with ⟨rfl, rfl⟩ | ⟨y2, k2, n2, rfl, e6, e7, e8⟩
        · simp [ho, hr, Instr.sliceAt, run_underlying hu, Instr.slice, Instr.sliceBounds]
        · have : n2 ≤ s.size := by omega
          simp [ho, hr, Instr.sliceAt, run_underlying hu, Instr.slice, Instr.sliceBounds, Instr.sliceBound, asIntOf, e6, e7, this, e8]
        · have : n ≤ s.size := by omega
          simp [ho, hr, Instr.sliceAt, run_underlying hu, Instr.slice, Instr.sliceBounds, Instr.sliceBound, asIntOf, e3, e4, this, e5]
        · have h1 : n ≤ s.size := by omega
          have h2 : n2 ≤ hh := by omega
          simp [ho, hr, Instr.sliceAt, run_underlying hu, Instr.slice, Instr.sliceBounds, Instr.sliceBound, asIntOf, e3, e4, h1, e5, e6, e7, h2, e8]
      · cases h
    · cases h
  · cases h

/-- The bounds of a cut of a slice. -/
theorem run_bounds {len cap l h m : Nat} {lo hi mx : Option Operand} (hf : FR g fr a) (hh : bnd fr len hi = some h) (hl : bnd fr 0 lo = some l) (hm : (mx = none ∧ m = cap) ∨ (∃ y, mx = some y ∧ bnd fr 0 (some y) = some m ∧ hi.isSome = true))
    (h1 : l ≤ h) (h2 : h ≤ m) (h3 : m ≤ cap) : (Instr.sliceBounds true len cap (lo.map a.eval) (hi.map a.eval) (mx.map a.eval)).run P g.w = .ok (l, h, m) g.w := by
  rcases hm with ⟨rfl, rfl⟩ | ⟨ym, rfl, hm, hsome⟩
  · rcases bnd_run hf hh with ⟨rfl, rfl⟩ | ⟨y, k, n, rfl, e3, e4, e5⟩ <;> rcases bnd_run hf hl with ⟨rfl, rfl⟩ | ⟨y2, k2, n2, rfl, e6, e7, e8⟩
    · simp [Instr.sliceBounds]
    · have : n2 ≤ h := by omega
      simp [Instr.sliceBounds, Instr.sliceBound, asIntOf, e6, e7, this, e8]
    · have : n ≤ m := by omega
      simp [Instr.sliceBounds, Instr.sliceBound, asIntOf, e3, e4, this, e5]
    · have h1 : n ≤ m := by omega
      have h2 : n2 ≤ h := by omega
      simp [Instr.sliceBounds, Instr.sliceBound, asIntOf, e3, e4, h1, e5, e6, e7, h2, e8]
  · rcases bnd_run hf hm with ⟨hno, _⟩ | ⟨y0, k0, n0, hy0, f3, f4, f5⟩
    · cases hno
    · injection hy0 with hy0; subst hy0
      have hmc : n0 ≤ cap := by omega
      rcases bnd_run hf hh with ⟨rfl, rfl⟩ | ⟨y, k, n, rfl, e3, e4, e5⟩
      · simp at hsome
      · have hnm : n ≤ m := by omega
        rcases bnd_run hf hl with ⟨rfl, rfl⟩ | ⟨y2, k2, n2, rfl, e6, e7, e8⟩
        · simp [Instr.sliceBounds, Instr.sliceBound, asIntOf, e3, e4, hnm, e5, f3, f4, f5, hmc]
        · have h2 : n2 ≤ h := by omega
          simp [Instr.sliceBounds, Instr.sliceBound, asIntOf, e3, e4, hnm, e5, f3, f4, f5, hmc, e6, e7, h2, e8]

theorem flat_drop {es : List PV} {sz : Nat} (h : ∀ x ∈ es, x.cells.length = sz) (l : Nat) (hl : l ≤ es.length) : (es.drop l).flatMap PV.cells = (es.flatMap PV.cells).drop (l * sz) := by
  induction l generalizing es with
  | zero => simp
  | succ l ih =>
    cases es with
    | nil => simp at hl
    | cons e es =>
      have he := h e (List.mem_cons_self ..)
      have h1 : List.drop ((l + 1) * sz) e.cells = [] := List.drop_eq_nil_of_le (by rw [he, Nat.add_mul]; omega)
      rw [List.drop_succ_cons, List.flatMap_cons, ih (fun x hx => h x (List.mem_cons_of_mem _ hx)) (by simpa using hl), List.drop_append, h1, he, List.nil_append]
      congr 1
      rw [Nat.add_mul]; omega

theorem g_slcS {t e : TypeId} {x : Operand} {lo hi mx : Option Operand} {sz : Nat} (hs : St g) (hf : FR g fr a) (ho : o.op = .slice t x lo hi mx) (hu : P.underlying t = some (.slice e)) (hz : sizeIs P e sz = true)
    (hm : mx.isSome = true → hi.isSome = true) (h : ai fr g.σ (.slcS x lo hi mx sz) = some (p, σ')) : Gives P g o a p σ' := by
  have hr := hf.ev x
  simp only [ai] at h
  split at h
  · rename_i sz' xs ex hx
    rw [hx] at hr
    obtain ⟨ad, cap, e1, ⟨e2, e2n⟩, e3, e4, e5, e6⟩ := R_list.1 hr
    split at h
    · rename_i hh l k1 k2
      split at h
      · rename_i hb
        obtain ⟨hb1, hb2, rfl⟩ := hb
        have key : ∀ (m : Nat) (ex' : Bool), ((mx = none ∧ m = cap) ∨ (∃ y, mx = some y ∧ bnd fr 0 (some y) = some m ∧ hi.isSome = true)) → hh ≤ m → m ≤ cap → (ex' = true → m = hh) →
            Gives P g o a (.list sz' ((xs.take hh).drop l) ex') g.σ := by
          intro m ex' hmx h1 h2 h3
          have hrun := run_bounds (P := P) hf k1 k2 hmx hb1 h1 h2
          have hlen : ((xs.take hh).drop l).length = hh - l := by simp; omega
          have hmem : ∀ y ∈ (xs.take hh).drop l, y ∈ xs := fun y hy => List.mem_of_mem_take (List.mem_of_mem_drop hy)
          refine Gives.same hs (v := .slice (if m = l then ad else ad.map (·.add (l * sz'))) (hh - l) (m - l)) ?_ (R_list.2 ⟨_, m - l, by rw [hlen], ⟨by omega, fun hq => by
            split at hq
            · omega
            · have := e2n (by simpa using hq); omega⟩, by omega, fun he => by rw [hlen, h3 he], fun y hy => e5 y (hmem y hy), fun h0 => ?_⟩)
          · unfold execOp
            simp [ho, e1, Instr.sliceAt, run_underlying hu, Instr.slice, hrun, sizeIs_run hz]
          · rw [hlen] at h0
            obtain ⟨b, rfl, q2, q3, q4⟩ := e6 (by omega)
            refine ⟨b.add (l * sz'), by rw [if_neg (by omega)]; rfl, addr_add_spot q2 _, by rw [addr_add_block]; exact q3, fun j q hq => ?_⟩
            rw [addr_add_add q2]
            apply q4
            rw [flat_drop (sz := sz') (fun y hy => (e5 y (List.mem_of_mem_take hy)).2) l (by simp; omega), List.getElem?_drop] at hq
            rw [← List.take_append_drop hh xs, List.flatMap_append, List.getElem?_append_left]
            · exact hq
            · exact (List.getElem?_eq_some_iff.1 hq).1
        cases mx with
        | none =>
          simp at h
          obtain ⟨rfl, rfl⟩ := h
          exact key cap _ (.inl ⟨rfl, rfl⟩) (by omega) (Nat.le_refl _) (fun he => by simp at he; rw [e4 he.1, he.2])
        | some m0 =>
          simp only at h
          cases hm0 : bnd fr 0 (some m0) with
          | none => rw [hm0] at h; simp at h
          | some m =>
            rw [hm0] at h
            simp only at h
            split at h
            · rename_i hb3
              simp at h
              obtain ⟨rfl, rfl⟩ := h
              exact key m _ (.inr ⟨m0, rfl, hm0, hm rfl⟩) hb3.1 (by omega) (fun he => by simp at he; omega)
            · cases h
      · cases h
    · cases h
  · rename_i id ver off len hx
    rw [hx] at hr
    split at h
    · rename_i sz' es ver' hh l hσ k1 k2
      split at h
      · rename_i hb
        obtain ⟨hb1, hb2, rfl, rfl, hb5⟩ := hb
        simp at h; obtain ⟨rfl, rfl⟩ := h
        have hmx : mx = none := by simpa using hb5
        subst hmx
        obtain ⟨ad, cap, e1, e2, sz'', es', v'', e3, e4, e5⟩ := R_own.1 hr
        rw [hσ] at e3; simp at e3; obtain ⟨rfl, rfl, rfl⟩ := e3
        obtain ⟨q1, q2⟩ := e5 rfl
        have hrun := run_bounds (P := P) (mx := none) (cap := cap) hf k1 k2 (.inl ⟨rfl, rfl⟩) hb1 (by omega) (Nat.le_refl _)
        refine Gives.same hs (v := .slice (if cap = l then ad else ad.map (·.add (l * sz'))) (hh - l) (cap - l)) ?_ (R_own.2 ⟨_, cap - l, rfl, by omega, sz', es, ver, hσ, Nat.le_refl _, fun _ => ⟨by omega, ?_⟩⟩)
        · unfold execOp
          simp [ho, e1, Instr.sliceAt, run_underlying hu, Instr.slice, sizeIs_run hz]
          simp at hrun
          simp [hrun]
        · cases hρ : g.ρ[id]? with
          | none => simp only [hρ] at q2 ⊢; omega
          | some ob =>
            cases ob with
            | none => simp only [hρ] at q2 ⊢; omega
            | some b =>
              simp only [hρ] at q2 ⊢
              obtain ⟨r1, s, r2, r3⟩ := q2
              refine ⟨fun h0 => ?_, s, r2, ?_⟩
              · rw [if_neg (by omega), r1 (by omega)]
                simp [addr_add_mk, Nat.add_mul]
              · refine Nat.le_trans (Nat.mul_le_mul_right _ ?_) r3
                omega
      · cases h
    · cases h
  · rename_i hx
    rw [hx, R_val] at hr
    split at h
    · rename_i k1 k2 k3
      simp at h; obtain ⟨rfl, rfl⟩ := h
      have hrun := run_bounds (P := P) (len := 0) (cap := 0) (m := 0) (mx := mx) hf k1 k2 (by
        cases mx with
        | none => exact .inl ⟨rfl, rfl⟩
        | some y => exact .inr ⟨y, rfl, k3, hm rfl⟩) (Nat.le_refl _) (Nat.le_refl _) (Nat.le_refl _)
      refine Gives.same hs (v := .slice none 0 0) ?_ (R_val.2 rfl)
      unfold execOp
      simp [ho, hr, Instr.sliceAt, run_underlying hu, Instr.slice, hrun, sizeIs_run hz]
    · cases h
  · cases h
end

end Aw
end Go.Proofs.Ytoliadfdklfmfaa

set_option linter.unusedVariables false
set_option linter.unusedSimpArgs false
namespace Go.Proofs.Ytoliadfdklfmfaa
namespace Aw

/-- One block more; what was there is as it was. -/
structure Pushed (w w1 : World) (o : Obj) : Prop where
  heap : w1.heap = w.heap.push o
  os : w1.os = w.os
  tape : w1.tape = w.tape
  output : w1.output = w.output

theorem Pushed.old {w w1 : World} {o : Obj} (h : Pushed w w1 o) {b : Nat} (hb : b < w.heap.size) : w1.heap[b]? = w.heap[b]? := by
  rw [h.heap, Array.getElem?_push, if_neg (by omega)]
theorem Pushed.new {w w1 : World} {o : Obj} (h : Pushed w w1 o) : w1.heap[w.heap.size]? = some o := by
  rw [h.heap, Array.getElem?_push, if_pos rfl]

section
variable {g : G}
theorem St.lt (hs : St g) {i b : Nat} (h : g.ρ[i]? = some (some b)) : i < g.σ.length := by
  rw [← hs.len]; exact (List.getElem?_eq_some_iff.1 h).1

/-- A new block that nobody will write again. -/
theorem St.fresh (hs : St g) {w1 : World} {o : Obj} (h : Pushed g.w w1 o) : St ⟨g.σ, g.ρ, w1, g.h⟩ ∧ Step g ⟨g.σ, g.ρ, w1, g.h⟩ ∧ G.frz ⟨g.σ, g.ρ, w1, g.h⟩ g.w.heap.size := by
  have hst : Step g ⟨g.σ, g.ρ, w1, g.h⟩ := by
    refine ⟨rfl, h.os, h.tape, h.output, by show _ ≤ w1.heap.size; rw [h.heap]; simp, fun b hb _ => h.old hb, fun i b hb => .inr ⟨i, hb⟩, fun i sz es ver ho => ⟨es, ver, ho, Nat.le_refl _, fun _ => ⟨Nat.le_refl _, rfl, fun b hb => ?_⟩⟩⟩
    unfold blockSize
    rw [h.old (hs.block_lt hb)]
  refine ⟨⟨hs.hidS hst, hs.len, hs.inj, fun i sz es ver ho => ?_, fun i b sz es ver ho hv hb => by
    obtain ⟨cs, fr, h1⟩ := hs.ty i b sz es ver ho hv hb
    exact ⟨cs, fr, by show w1.heap[b]? = _; rw [h.old (hs.block_lt hb)]; exact h1⟩⟩, hst, ?_, fun i hi => ?_, fun hi => ?_⟩
  · rcases hs.obj i sz es ver ho with ⟨b, cs, e, fr, h1, h2, h3, h4, h5, h6⟩ | h'
    · exact .inl ⟨b, cs, e, fr, h1, by show w1.heap[b]? = _; rw [h.old (hs.block_lt h1)]; exact h2, h3, h4, h5, fun j p hp => let ⟨v, q1, q2⟩ := h6 j p hp; ⟨v, q1, q2.step hst⟩⟩
    · exact .inr h'
  · show _ < w1.heap.size; rw [h.heap]; simp
  · have := hs.block_lt hi; omega
  · have := hs.hid.1 _ hi; omega

/-- A new object, in a new block, with a version. -/
theorem St.pushV (hs : St g) (v0 : Nat) {w1 : World} {cs : Array Value} {e : TypeId} {fz : Nat × Nat} {sz : Nat} {es : List PV} (h : Pushed g.w w1 (.cells cs e fz)) (hsoft : ∀ j, j < cs.size → ¬ (fz.1 ≤ j ∧ j < fz.2))
    (hc : ∀ x ∈ es, x.cells.length = sz) (hle : es.length * sz ≤ cs.size) (hcells : ∀ (j : Nat) p, (es.flatMap PV.cells)[j]? = some p → ∃ v, cs[j]? = some v ∧ R g p v) (hty : 1000000 ≤ v0 → e = v0 / 1000000 - 1) :
    St ⟨g.σ ++ [.row sz es v0], g.ρ ++ [some g.w.heap.size], w1, g.h⟩ ∧ Step g ⟨g.σ ++ [.row sz es v0], g.ρ ++ [some g.w.heap.size], w1, g.h⟩ := by
  have hst : Step g ⟨g.σ ++ [.row sz es v0], g.ρ ++ [some g.w.heap.size], w1, g.h⟩ := by
    refine ⟨rfl, h.os, h.tape, h.output, by show _ ≤ w1.heap.size; rw [h.heap]; simp, fun b hb _ => h.old hb, fun i b hb => ?_, fun i sz' es' ver ho => ?_⟩
    · simp only at hb
      rcases Nat.lt_or_ge i g.ρ.length with hi | hi
      · rw [List.getElem?_append_left hi] at hb; exact .inr ⟨i, hb⟩
      · rw [List.getElem?_append_right hi] at hb
        cases hk : i - g.ρ.length with
        | zero => rw [hk] at hb; simp at hb; exact .inl (by omega)
        | succ k => rw [hk] at hb; simp at hb
    · have hi : i < g.σ.length := (List.getElem?_eq_some_iff.1 ho).1
      refine ⟨es', ver, by show (g.σ ++ _)[i]? = _; rw [List.getElem?_append_left hi]; exact ho, Nat.le_refl _, fun _ => ⟨Nat.le_refl _, by show (g.ρ ++ _)[i]? = _; rw [List.getElem?_append_left (by rw [hs.len]; exact hi)], fun b hb => ?_⟩⟩
      show blockSize w1 b = _
      unfold blockSize
      rw [h.old (hs.block_lt hb)]
  refine ⟨⟨hs.hidS hst, by simp [hs.len], fun i j b hi hj => ?_, fun i sz' es' ver ho => ?_, fun i b sz' es' ver ho hv hb => ?_⟩, hst⟩
  · simp only at hi hj
    have cases_ : ∀ {k : Nat}, (g.ρ ++ [some g.w.heap.size])[k]? = some (some b) → (g.ρ[k]? = some (some b) ∧ b < g.w.heap.size) ∨ (k = g.ρ.length ∧ b = g.w.heap.size) := by
      intro k hk
      rcases Nat.lt_or_ge k g.ρ.length with h' | h'
      · rw [List.getElem?_append_left h'] at hk; exact .inl ⟨hk, hs.block_lt hk⟩
      · rw [List.getElem?_append_right h'] at hk
        cases hk' : k - g.ρ.length with
        | zero => rw [hk'] at hk; simp at hk; exact .inr ⟨by omega, by omega⟩
        | succ m => rw [hk'] at hk; simp at hk
    rcases cases_ hi with ⟨h1, h2⟩ | ⟨h1, h2⟩ <;> rcases cases_ hj with ⟨h3, h4⟩ | ⟨h3, h4⟩
    · exact hs.inj i j b h1 h3
    · omega
    · omega
    · omega
  · simp only at ho
    rcases Nat.lt_or_ge i g.σ.length with hi | hi
    · rw [List.getElem?_append_left hi] at ho
      rcases hs.obj i sz' es' ver ho with ⟨b, cs', e', fr, h1, h2, h3, h4, h5, h6⟩ | ⟨h1, h2⟩
      · exact .inl ⟨b, cs', e', fr, by show (g.ρ ++ _)[i]? = _; rw [List.getElem?_append_left (by rw [hs.len]; exact hi)]; exact h1, by show w1.heap[b]? = _; rw [h.old (hs.block_lt h1)]; exact h2, h3, h4, h5, fun j p hp => let ⟨v, q1, q2⟩ := h6 j p hp; ⟨v, q1, q2.step hst⟩⟩
      · exact .inr ⟨by show (g.ρ ++ _)[i]? = _; rw [List.getElem?_append_left (by rw [hs.len]; exact hi)]; exact h1, h2⟩
    · rw [List.getElem?_append_right hi] at ho
      cases hk : i - g.σ.length with
      | zero =>
        rw [hk] at ho; simp at ho; obtain ⟨rfl, rfl, rfl⟩ := ho
        refine .inl ⟨g.w.heap.size, cs, e, fz, ?_, h.new, hsoft, hc, hle, fun j p hp => let ⟨v, q1, q2⟩ := hcells j p hp; ⟨v, q1, q2.step hst⟩⟩
        show (g.ρ ++ _)[i]? = _
        rw [List.getElem?_append_right (by rw [hs.len]; exact hi), hs.len, hk]; rfl
      | succ k => rw [hk] at ho; simp at ho
  · simp only at ho hb
    rcases Nat.lt_or_ge i g.σ.length with hi | hi
    · rw [List.getElem?_append_left hi] at ho
      rw [List.getElem?_append_left (by rw [hs.len]; exact hi)] at hb
      obtain ⟨cs', fr, h1⟩ := hs.ty i b sz' es' ver ho hv hb
      exact ⟨cs', fr, by show w1.heap[b]? = _; rw [h.old (hs.block_lt hb)]; exact h1⟩
    · rw [List.getElem?_append_right hi] at ho
      rw [List.getElem?_append_right (by rw [hs.len]; exact hi)] at hb
      cases hk : i - g.σ.length with
      | zero =>
        rw [hk] at ho; simp at ho; obtain ⟨rfl, rfl, rfl⟩ := ho
        rw [hs.len, hk] at hb; simp at hb; subst hb
        exact ⟨cs, fz, by rw [h.new, hty hv]⟩
      | succ k => rw [hk] at ho; simp at ho

/-- A new object, in a new block. -/
theorem St.push (hs : St g) {w1 : World} {cs : Array Value} {e : TypeId} {fz : Nat × Nat} {sz : Nat} {es : List PV} (h : Pushed g.w w1 (.cells cs e fz)) (hsoft : ∀ j, j < cs.size → ¬ (fz.1 ≤ j ∧ j < fz.2))
    (hc : ∀ x ∈ es, x.cells.length = sz) (hle : es.length * sz ≤ cs.size) (hcells : ∀ (j : Nat) p, (es.flatMap PV.cells)[j]? = some p → ∃ v, cs[j]? = some v ∧ R g p v) :
    St ⟨g.σ ++ [.row sz es 0], g.ρ ++ [some g.w.heap.size], w1, g.h⟩ ∧ Step g ⟨g.σ ++ [.row sz es 0], g.ρ ++ [some g.w.heap.size], w1, g.h⟩ :=
  hs.pushV 0 h hsoft hc hle hcells (fun h => by omega)

theorem blockSize_new {w w1 : World} {cs : Array Value} {e : TypeId} {fz : Nat × Nat} (h : Pushed w w1 (.cells cs e fz)) : blockSize w1 w.heap.size = some cs.size := by
  unfold blockSize; rw [h.new]
end

section
variable {P : Program} {g : G} {fr : List PV} {a : Act} {o : Oper} {p : PV} {σ' : List AObj}

theorem pvOf_R (z : Value) : R g (pvOf z) z := by
  cases z with
  | agg cs =>
    refine R_agg.2 ⟨cs.toList, rfl, by simp, fun j q v hq hv => ?_⟩
    simp at hq hv
    obtain ⟨u, h1, rfl⟩ := hq
    rw [h1] at hv; injection hv with hv; subst hv; exact R_val.2 rfl
  | _ => exact R_val.2 rfl
theorem pvOf_cells (z : Value) : (pvOf z).cells = z.cells.toList.map .val := by cases z <;> first | rfl | simp [pvOf, PV.cells, Value.cells]

/-- A new object of one element. -/
theorem gives_box {v : Value} {q : PV} {e : TypeId} (hs : St g) (hrun : (execOp a.eval o).run P g.w = .ok (.value (.pointer (some ⟨g.w.heap.size, 0, none⟩))) { g.w with heap := g.w.heap.push (.cells v.cells e) })
    (hc : Rs g q.cells v.cells.toList) : Gives P g o a (.ptr g.σ.length 0 0 0) (g.σ ++ [.row q.cells.length [q] 0]) := by
  have hp : Pushed g.w { g.w with heap := g.w.heap.push (.cells v.cells e) } (.cells v.cells e (0, 0)) := ⟨rfl, rfl, rfl, rfl⟩
  have hlen : v.cells.size = q.cells.length := by have := hc.1; simpa using this
  obtain ⟨h1, h2⟩ := hs.push (sz := q.cells.length) (es := [q]) hp (fun j _ => by simp) (fun x hx => by simp at hx; subst hx; rfl) (by simp [hlen]) (fun j r hr => by
    simp at hr
    obtain ⟨u, hu1, hu2⟩ := hc.get hr
    exact ⟨u, by simpa using hu1, hu2⟩)
  refine ⟨_, _, _, _, hrun, .inl rfl, h1, h2, R_ptr.2 ⟨_, rfl, q.cells.length, [q], 0, by simp, Nat.le_refl _, fun _ => ⟨by simp, g.w.heap.size, ?_, by simp⟩⟩⟩
  show (g.ρ ++ _)[g.σ.length]? = _
  rw [← hs.len]; simp

theorem g_alloc {t : TypeId} {z : Value} (hs : St g) (ho : o.op = .alloc t) (hz : zeroIs P t z = true) (h : ai fr g.σ (.alloc z) = some (p, σ')) : Gives P g o a p σ' := by
  simp [ai] at h; obtain ⟨rfl, rfl⟩ := h
  refine gives_box (v := z) (q := pvOf z) (e := t) hs ?_ ?_
  · unfold execOp
    simp [ho, Instr.alloc, zeroIs_run hz, newVar, newRow]
  · rw [pvOf_cells]
    refine ⟨by simp, fun j q v hq hv => ?_⟩
    simp at hq hv
    obtain ⟨u, h1, rfl⟩ := hq
    rw [h1] at hv; injection hv with hv; subst hv; exact R_val.2 rfl

theorem g_box {t : TypeId} {x : Operand} {fz : Bool} (hs : St g) (hf : FR g fr a) (ho : o.op = .box t x) (h : ai fr g.σ (.box fz x) = some (p, σ')) : Gives P g o a p σ' := by
  have hr := hf.ev x
  simp only [ai] at h
  split at h
  · rename_i hb
    obtain ⟨hb1, hb2⟩ := hb
    have hc := (hr.cells hb1).1
    have hrun : (execOp a.eval o).run P g.w = .ok (.value (.pointer (some ⟨g.w.heap.size, 0, none⟩))) { g.w with heap := g.w.heap.push (.cells (a.eval x).cells t) } := by
      unfold execOp; simp [ho, Instr.box, newVar, newRow]
    cases fz with
    | false =>
      simp at h; obtain ⟨rfl, rfl⟩ := h
      exact gives_box hs hrun hc
    | true =>
      simp at h; obtain ⟨rfl, rfl⟩ := h
      have hp : Pushed g.w { g.w with heap := g.w.heap.push (.cells (a.eval x).cells t) } (.cells (a.eval x).cells t (0, 0)) := ⟨rfl, rfl, rfl, rfl⟩
      obtain ⟨h1, h2, h3⟩ := hs.fresh hp
      refine ⟨_, _, _, _, hrun, .inl rfl, h1, h2, R_fptr.2 ⟨⟨g.w.heap.size, 0, none⟩, rfl, rfl, h3, fun j q hq => ?_⟩⟩
      obtain ⟨v, k1, k2⟩ := hc.get hq
      refine ⟨?_, v, ?_, k2.step h2⟩
      · have hb := hb2 rfl
        cases hx : aev fr x with
        | agg ps => rw [hx] at hq hb; simp only [PV.cells] at hq; simp only [PV.bel] at hb; exact PV.bels_iff.1 hb q (List.mem_of_getElem? hq)
        | _ =>
          rw [hx] at hq hb
          simp only [PV.cells] at hq
          cases j with
          | zero => simp at hq; subst hq; exact hb
          | succ j => simp at hq
      · rw [addr_add_mk]
        simp only [World.cell?, hp.new]
        simpa using k1
  · cases h

/-- A new row as a slice of the state. -/
theorem gives_rowV (v0 : Nat) {w1 : World} {cs : Array Value} {e : TypeId} {fz : Nat × Nat} {sz len cap : Nat} {es : List PV} (hs : St g) (hp : Pushed g.w w1 (.cells cs e fz))
    (hrun : (execOp a.eval o).run P g.w = .ok (.value (.slice (some ⟨g.w.heap.size, 0, none⟩) len cap)) w1) (hsoft : ∀ j, j < cs.size → ¬ (fz.1 ≤ j ∧ j < fz.2))
    (hc : ∀ x ∈ es, x.cells.length = sz) (hlen : es.length = len) (hcap : len ≤ cap) (hle : cap * sz ≤ cs.size) (hcells : ∀ (j : Nat) p, (es.flatMap PV.cells)[j]? = some p → ∃ v, cs[j]? = some v ∧ R g p v) (hty : 1000000 ≤ v0 → e = v0 / 1000000 - 1) :
    Gives P g o a (.own g.σ.length v0 0 len) (g.σ ++ [.row sz es v0]) := by
  obtain ⟨h1, h2⟩ := hs.pushV v0 (sz := sz) (es := es) hp hsoft hc (Nat.le_trans (Nat.mul_le_mul_right _ (by omega)) hle) hcells hty
  refine ⟨_, _, _, _, hrun, .inl rfl, h1, h2, R_own.2 ⟨_, cap, rfl, hcap, sz, es, v0, by simp, Nat.le_refl _, fun _ => ⟨by omega, ?_⟩⟩⟩
  have hρ : (g.ρ ++ [some g.w.heap.size])[g.σ.length]? = some (some g.w.heap.size) := by rw [← hs.len]; simp
  simp only [hρ]
  exact ⟨fun _ => by simp, cs.size, blockSize_new hp, by rw [Nat.zero_add]; exact hle⟩

theorem gives_row {w1 : World} {cs : Array Value} {e : TypeId} {fz : Nat × Nat} {sz len cap : Nat} {es : List PV} (hs : St g) (hp : Pushed g.w w1 (.cells cs e fz))
    (hrun : (execOp a.eval o).run P g.w = .ok (.value (.slice (some ⟨g.w.heap.size, 0, none⟩) len cap)) w1) (hsoft : ∀ j, j < cs.size → ¬ (fz.1 ≤ j ∧ j < fz.2))
    (hc : ∀ x ∈ es, x.cells.length = sz) (hlen : es.length = len) (hcap : len ≤ cap) (hle : cap * sz ≤ cs.size) (hcells : ∀ (j : Nat) p, (es.flatMap PV.cells)[j]? = some p → ∃ v, cs[j]? = some v ∧ R g p v) :
    Gives P g o a (.own g.σ.length 0 0 len) (g.σ ++ [.row sz es 0]) := by
  obtain ⟨h1, h2⟩ := hs.push (sz := sz) (es := es) hp hsoft hc (Nat.le_trans (Nat.mul_le_mul_right _ (by omega)) hle) hcells
  refine ⟨_, _, _, _, hrun, .inl rfl, h1, h2, R_own.2 ⟨_, cap, rfl, hcap, sz, es, 0, by simp, Nat.le_refl _, fun _ => ⟨by omega, ?_⟩⟩⟩
  have hρ : (g.ρ ++ [some g.w.heap.size])[g.σ.length]? = some (some g.w.heap.size) := by rw [← hs.len]; simp
  simp only [hρ]
  exact ⟨fun _ => by simp, cs.size, blockSize_new hp, by rw [Nat.zero_add]; exact hle⟩

theorem replicate_cells {z : PV} {n j : Nat} {q : PV} (h : ((List.replicate n z).flatMap PV.cells)[j]? = some q) : z.cells[j % z.cells.length]? = some q ∧ j < n * z.cells.length := by
  induction n generalizing j with
  | zero => simp at h
  | succ n ih =>
    rw [List.replicate_succ, List.flatMap_cons] at h
    rcases Nat.lt_or_ge j z.cells.length with hj | hj
    · rw [List.getElem?_append_left hj] at h
      rw [Nat.mod_eq_of_lt hj, Nat.add_mul]
      exact ⟨h, by omega⟩
    · rw [List.getElem?_append_right hj] at h
      obtain ⟨h1, h2⟩ := ih h
      rw [Nat.mod_eq_sub_mod hj, Nat.add_mul]
      exact ⟨h1, by omega⟩

theorem g_make {t e : TypeId} {l c : Operand} {sz bytes : Nat} {z : Value} (hs : St g) (hf : FR g fr a) (ho : o.op = .makeSlice t l c) (hu : P.underlying t = some (.slice e)) (hz : sizeIs P e sz = true) (hb : bytesIs P e bytes = true) (hzero : zeroIs P e z = true)
    (h0 : 0 < sz) (hcells : (pvOf z).cells.length = sz) (h : ai fr g.σ (.make l c sz bytes z) = some (p, σ')) : Gives P g o a p σ' := by
  have hl := hf.ev l
  have hc := hf.ev c
  simp only [ai] at h
  split at h
  · rename_i n m hn hm
    rw [hn, R_val] at hl
    rw [hm, R_val] at hc
    split at h
    · rename_i hbd
      obtain ⟨hb1, hb2, hb3, hb4⟩ := hbd
      simp at h; obtain ⟨rfl, rfl⟩ := h
      obtain ⟨ti, hti, hby⟩ := bytesIs_run hb
      have hwn : IntKind.i64.wrap n = n := by unfold IntKind.wrap; simp [IntKind.signed, IntKind.bits]; omega
      have hwm : IntKind.i64.wrap m = m := by unfold IntKind.wrap; simp [IntKind.signed, IntKind.bits]; omega
      have hbm : ¬ ((bytes : Int) * m > 2 ^ 48) := by
        rw [Int.mul_comm]; simpa using hb3
      have hz2 : (pvOf z).cells.length = z.cells.size := by rw [pvOf_cells]; simp
      refine gives_row (cap := m.toNat) (cs := if m.toNat * sz = 0 then #[] else (Array.range (m.toNat * sz)).map (z.cells[· % z.cells.size]!)) (e := e) (fz := (0, 0)) hs (w1 := { g.w with heap := g.w.heap.push (.cells (if m.toNat * sz = 0 then #[] else (Array.range (m.toNat * sz)).map (z.cells[· % z.cells.size]!)) e) }) ⟨rfl, rfl, rfl, rfl⟩ ?_ (fun j _ => by simp) (fun x hx => by rw [(List.mem_replicate.1 hx).2, hcells]) (by simp) (by omega) ?_ ?_
      · unfold execOp
        have hm0 : ¬ (m < 0) := by omega
        have hn0 : ¬ (n < 0) := by omega
        have hnm : ¬ (m < n) := by omega
        have hbm' : ¬ (281474976710656 < (bytes : Int) * m) := by rw [Int.mul_comm]; omega
        have hr0 : Array.range 0 = #[] := rfl
        by_cases hm1 : m.toNat * sz = 0
        · simp [hr0, ho, hl, hc, Instr.makeSlice, run_underlying hu, asInt, asIntOf, typeInfo, hti, hby, hwn, hwm, hm0, hn0, hnm, hbm', sizeIs_run hz, hm1, newRow]
        · simp [ho, hl, hc, Instr.makeSlice, run_underlying hu, asInt, asIntOf, typeInfo, hti, hby, hwn, hwm, hm0, hn0, hnm, hbm', sizeIs_run hz, hm1, newRow, zeroIs_run hzero]
      · split
        · omega
        · simp
      · intro j q hq
        obtain ⟨h1, h2⟩ := replicate_cells hq
        rw [hcells] at h1 h2
        have hmn : n.toNat * sz ≤ m.toNat * sz := Nat.mul_le_mul_right _ (by omega)
        rw [if_neg (by omega)]
        refine ⟨z.cells[j % z.cells.size]!, ?_, ?_⟩
        · simp
          refine ⟨j, ?_, rfl⟩
          have hj : j < m.toNat * sz := Nat.lt_of_lt_of_le h2 hmn
          simp [hj]
        · rw [pvOf_cells] at h1
          have hsz : z.cells.size = sz := by omega
          have hlt : j % z.cells.size < z.cells.size := Nat.mod_lt _ (by omega)
          rw [hsz] at hlt ⊢
          simp at h1
          obtain ⟨u, h3, rfl⟩ := h1
          rw [R_val]
          simp [getElem!_def, h3]
    · cases h
  · cases h


theorem setAll_length : ∀ (r : List (Nat × PV)) (l : List PV), (setAll l r).length = l.length
  | [], l => rfl
  | (i, q) :: r, l => by rw [setAll, setAll_length r]; simp

theorem flat_at {es : List PV} {sz : Nat} (h0 : 0 < sz) (h : ∀ x ∈ es, x.cells.length = sz) (k : Nat) : (es.flatMap PV.cells)[k]? = (es[k / sz]?).bind fun e => e.cells[k % sz]? := by
  cases he : es[k / sz]? with
  | some e =>
    have := flat_get h he (Nat.mod_lt k h0)
    rw [Nat.mul_comm, Nat.div_add_mod] at this
    rw [this]; rfl
  | none =>
    have hk := List.getElem?_eq_none_iff.1 he
    rw [List.getElem?_eq_none]
    · rfl
    · rw [flat_length h]
      exact Nat.le_trans (Nat.mul_le_mul_right _ hk) (Nat.div_mul_le_self ..)
theorem foldl_set_get (b k : Nat) : ∀ (vs : List Value) (off : Nat) (c : Array Value),
    ((vs.zipIdx off).foldl (fun cs (x : Value × Nat) => cs.setIfInBounds (b + x.2) x.1) c).size = c.size ∧
    ((vs.zipIdx off).foldl (fun cs (x : Value × Nat) => cs.setIfInBounds (b + x.2) x.1) c)[k]? = if b + off ≤ k ∧ k < b + off + vs.length ∧ k < c.size then vs[k - (b + off)]? else c[k]?
  | [], off, c => by
    refine ⟨rfl, ?_⟩
    rw [if_neg (by simp; omega)]; rfl
  | v :: vs, off, c => by
    obtain ⟨h1, h2⟩ := foldl_set_get b k vs (off + 1) (c.setIfInBounds (b + off) v)
    rw [List.zipIdx_cons, List.foldl_cons]
    refine ⟨by rw [h1]; simp, ?_⟩
    rw [h2]
    simp only [Array.size_setIfInBounds, List.length_cons]
    by_cases hk : k = b + off
    · subst hk
      rw [if_neg (by omega)]
      by_cases hc : b + off < c.size
      · rw [if_pos (by omega)]
        simp [hc]
      · rw [if_neg (by omega)]
        simp [Array.getElem?_eq_none (Nat.le_of_not_lt hc)]
        omega
    · have hne : b + off ≠ k := fun e => hk e.symm
      by_cases hr : b + (off + 1) ≤ k ∧ k < b + (off + 1) + vs.length ∧ k < c.size
      · rw [if_pos hr, if_pos (by omega), show k - (b + off) = (k - (b + (off + 1))) + 1 by omega, List.getElem?_cons_succ]
      · rw [if_neg hr, if_neg (by omega), Array.getElem?_setIfInBounds_ne hne]

/-- One element of a row laid anew. -/
theorem set_cells {sz i : Nat} {es : List PV} {q : PV} {cs cs' : Array Value} {u : List Value} (h0 : 0 < sz) (hes : ∀ x ∈ es, x.cells.length = sz) (hi : i < es.length) (hq : q.cells.length = sz) (hu : Rs g q.cells u)
    (hc : ∀ (j : Nat) p, (es.flatMap PV.cells)[j]? = some p → ∃ v, cs[j]? = some v ∧ R g p v)
    (hcs : ∀ k : Nat, cs'[k]? = if i * sz ≤ k ∧ k < i * sz + sz ∧ k < cs.size then u[k - i * sz]? else cs[k]?) :
    (∀ x ∈ es.set i q, x.cells.length = sz) ∧ ∀ (j : Nat) p, ((es.set i q).flatMap PV.cells)[j]? = some p → ∃ v, cs'[j]? = some v ∧ R g p v := by
  have hall : ∀ x ∈ es.set i q, x.cells.length = sz := fun x hx => by
    rcases List.mem_or_eq_of_mem_set hx with h | h
    · exact hes x h
    · rw [h, hq]
  refine ⟨hall, fun j p hp => ?_⟩
  rw [flat_at h0 hall] at hp
  by_cases hj : j / sz = i
  · subst hj
    rw [List.getElem?_set_self hi] at hp
    simp only [Option.bind_some] at hp
    obtain ⟨v, hv1, hv2⟩ := hu.get hp
    have hm := Nat.div_add_mod j sz
    have hlt := Nat.mod_lt j h0
    rw [Nat.mul_comm] at hm
    have hjc : j < cs.size := by
      have hfl : (es.flatMap PV.cells).length = es.length * sz := flat_length hes
      have hle : j / sz * sz + sz ≤ es.length * sz := by rw [← Nat.succ_mul]; exact Nat.mul_le_mul_right _ hi
      have hjl : j < (es.flatMap PV.cells).length := by omega
      obtain ⟨v', hv', _⟩ := hc j _ (List.getElem?_eq_getElem hjl)
      exact (Array.getElem?_eq_some_iff.1 hv').1
    refine ⟨v, ?_, hv2⟩
    rw [hcs, if_pos ⟨by omega, by omega, hjc⟩, show j - j / sz * sz = j % sz by omega]
    exact hv1
  · rw [List.getElem?_set_ne (fun e => hj e.symm), ← flat_at h0 hes] at hp
    obtain ⟨v, hv1, hv2⟩ := hc j p hp
    refine ⟨v, ?_, hv2⟩
    rw [hcs, if_neg]
    · exact hv1
    · intro ⟨h1, h2, _⟩
      apply hj
      have hle : sz * i ≤ j := by rw [Nat.mul_comm]; exact h1
      exact Nat.div_eq_of_lt_le (by omega) (by rw [Nat.add_mul]; omega)

/-- A row is filled part by part: what the machine's cells are. -/
theorem fill_sound {sz len : Nat} (h0 : 0 < sz) : ∀ (ps : List (Nat × Value)) (qs : List (Nat × PV)) (es : List PV) (cs : Array Value), ps.length = qs.length →
    (∀ (j : Nat) (u : Nat × Value) (q : Nat × PV), ps[j]? = some u → qs[j]? = some q → u.1 = q.1 ∧ q.1 < len ∧ Rs g q.2.cells u.2.cells.toList ∧ q.2.cells.length = sz) →
    es.length = len → cs.size = len * sz → (∀ x ∈ es, x.cells.length = sz) → (∀ (j : Nat) p, (es.flatMap PV.cells)[j]? = some p → ∃ v, cs[j]? = some v ∧ R g p v) →
    ∃ cs', Instr.fill (fun i => some (i * sz, sz)) cs ps = some cs' ∧ cs'.size = len * sz ∧ (∀ x ∈ setAll es qs, x.cells.length = sz) ∧ (∀ (j : Nat) p, ((setAll es qs).flatMap PV.cells)[j]? = some p → ∃ v, cs'[j]? = some v ∧ R g p v)
  | [], [], es, cs, _, _, _, hcs, hsz, hc => ⟨cs, rfl, hcs, hsz, hc⟩
  | [], _ :: _, _, _, h, _, _, _, _, _ => by simp at h
  | _ :: _, [], _, _, h, _, _, _, _, _ => by simp at h
  | (i, u) :: ps, (k, q) :: qs, es, cs, hl, hp, hes, hcs, hsz, hc => by
    obtain ⟨hik, hlt, hr, hq⟩ := hp 0 (i, u) (k, q) rfl rfl
    simp only at hik hlt hr hq
    subst hik
    have hul : u.cells.size = sz := by have := hr.1; simp at this; omega
    have hbound : i * sz + sz ≤ len * sz := by rw [← Nat.succ_mul]; exact Nat.mul_le_mul_right _ hlt
    have hf := fun k => foldl_set_get (i * sz) k u.cells.toList 0 cs
    have hsize := (hf 0).1
    obtain ⟨s1, s2⟩ := set_cells (g := g) (i := i) (sz := sz) (cs' := (u.cells.toList.zipIdx 0).foldl (fun cs (x : Value × Nat) => cs.setIfInBounds (i * sz + x.2) x.1) cs) h0 hsz (show i < es.length by omega) hq hr hc (fun k => by
      rw [(hf k).2, Nat.add_zero]; simp [hul])
    obtain ⟨cs', f1, f2, f3, f4⟩ := fill_sound h0 ps qs (es.set i q) _ (by simpa using hl) (fun j u' q' h1 h2 => hp (j + 1) u' q' (by simpa using h1) (by simpa using h2)) (by simpa using hes) (by rw [hsize]; exact hcs) s1 s2
    refine ⟨cs', ?_, f2, f3, f4⟩
    rw [← f1]
    simp only [Instr.fill]
    rw [if_neg (by simp [hul]; omega)]
    congr 1
    rw [← Array.foldl_toList]
    congr 1
    simp

end

end Aw
end Go.Proofs.Ytoliadfdklfmfaa

set_option linter.unusedVariables false
set_option linter.unusedSimpArgs false
namespace Go.Proofs.Ytoliadfdklfmfaa
namespace Aw
section
variable {g : G}

theorem set_get? {α : Type} {l : List α} {i j : Nat} {x y : α} (h : (l.set i x)[j]? = some y) : (j = i ∧ y = x ∧ i < l.length) ∨ (j ≠ i ∧ l[j]? = some y) := by
  by_cases hj : j = i
  · subst hj
    rcases Nat.lt_or_ge j l.length with hl | hl
    · rw [List.getElem?_set_self hl] at h; injection h with h; exact .inl ⟨rfl, h.symm, hl⟩
    · rw [List.getElem?_eq_none (by simpa using hl)] at h; cases h
  · rw [List.getElem?_set_ne (fun e => hj e.symm)] at h; exact .inr ⟨hj, h⟩

/-- One object turns. -/
theorem St.upd (hs : St g) {id sz ver ver' : Nat} {es es' : List PV} {ob : Option Nat} {w' : World} (hσ : g.σ[id]? = some (.row sz es ver))
    (hos : w'.os = g.w.os) (htape : w'.tape = g.w.tape) (hout : w'.output = g.w.output) (hsize : g.w.heap.size ≤ w'.heap.size)
    (hold : ∀ k, k < g.w.heap.size → g.ρ[id]? ≠ some (some k) → w'.heap[k]? = g.w.heap[k]?)
    (hob : ∀ b, ob = some b → g.ρ[id]? = some (some b) ∨ g.w.heap.size ≤ b)
    (hv : ver ≤ ver') (hsame : ver = ver' → es.length ≤ es'.length ∧ g.ρ[id]? = some ob ∧ ∀ b, ob = some b → blockSize w' b = blockSize g.w b)
    (hnew : (∃ b cs e fz, ob = some b ∧ w'.heap[b]? = some (.cells cs e fz) ∧ (∀ j, j < cs.size → ¬ (fz.1 ≤ j ∧ j < fz.2)) ∧ (∀ x ∈ es', x.cells.length = sz) ∧ es'.length * sz ≤ cs.size ∧
      ∀ (j : Nat) p, (es'.flatMap PV.cells)[j]? = some p → ∃ v, cs[j]? = some v ∧ R g p v) ∨ (ob = none ∧ es' = []))
    (hty : 1000000 ≤ ver' → ∀ b, ob = some b → ∃ cs fz, w'.heap[b]? = some (.cells cs (ver' / 1000000 - 1) fz)) :
    St ⟨g.σ.set id (.row sz es' ver'), g.ρ.set id ob, w', g.h⟩ ∧ Step g ⟨g.σ.set id (.row sz es' ver'), g.ρ.set id ob, w', g.h⟩ := by
  have hid : id < g.σ.length := (List.getElem?_eq_some_iff.1 hσ).1
  have hidρ : id < g.ρ.length := by rw [hs.len]; exact hid
  have hstep : Step g ⟨g.σ.set id (.row sz es' ver'), g.ρ.set id ob, w', g.h⟩ := by
    refine ⟨rfl, hos, htape, hout, hsize, fun b hb hn => hold b hb (hn id), fun i b hb => ?_, fun i sz1 es1 ver1 ho => ?_⟩
    · rcases set_get? hb with ⟨rfl, h2, _⟩ | ⟨_, h2⟩
      · rcases hob b h2.symm with h3 | h3
        · exact .inr ⟨i, h3⟩
        · exact .inl h3
      · exact .inr ⟨i, h2⟩
    · by_cases hi : i = id
      · subst hi
        rw [hσ] at ho; simp at ho; obtain ⟨rfl, rfl, rfl⟩ := ho
        refine ⟨es', ver', by show (g.σ.set i _)[i]? = _; rw [List.getElem?_set_self hid], hv, fun e => ?_⟩
        obtain ⟨h1, h2, h3⟩ := hsame e
        refine ⟨h1, by show (g.ρ.set i ob)[i]? = _; rw [List.getElem?_set_self hidρ, h2], fun b hb => h3 b ?_⟩
        rw [h2] at hb; injection hb
      · refine ⟨es1, ver1, by show (g.σ.set id _)[i]? = _; rw [List.getElem?_set_ne (fun e => hi e.symm)]; exact ho, Nat.le_refl _, fun _ => ⟨Nat.le_refl _, by show (g.ρ.set id ob)[i]? = _; rw [List.getElem?_set_ne (fun e => hi e.symm)], fun b hb => ?_⟩⟩
        unfold blockSize
        rw [show (G.w ⟨g.σ.set id (.row sz es' ver'), g.ρ.set id ob, w', g.h⟩) = w' from rfl, hold b (hs.block_lt hb) (fun e => hi (hs.inj i id b hb e))]
  refine ⟨⟨hs.hidS hstep, by simp [hs.len], fun i j b hi hj => ?_, fun i sz1 es1 ver1 ho => ?_, fun i b sz1 es1 ver1 ho hv1 hb => ?_⟩, hstep⟩
  rotate_right
  · rcases set_get? ho with ⟨rfl, h2, _⟩ | ⟨h1, h2⟩
    · injection h2 with q1 q2 q3; subst q1; subst q2; subst q3
      have hb' : ob = some b := by
        have hb2 : (g.ρ.set i ob)[i]? = some (some b) := hb
        rw [List.getElem?_set_self hidρ] at hb2; injection hb2
      exact hty hv1 b hb'
    · have hb' : g.ρ[i]? = some (some b) := by
        have hb2 : (g.ρ.set id ob)[i]? = some (some b) := hb
        rwa [List.getElem?_set_ne (fun e => h1 e.symm)] at hb2
      obtain ⟨cs, fr, k⟩ := hs.ty i b sz1 es1 ver1 h2 hv1 hb'
      exact ⟨cs, fr, by show w'.heap[b]? = _; rw [hold b (hs.block_lt hb') (fun e => h1 (hs.inj i id b hb' e))]; exact k⟩
  · rcases set_get? hi with ⟨rfl, h2, _⟩ | ⟨h1, h2⟩ <;> rcases set_get? hj with ⟨rfl, h4, _⟩ | ⟨h3, h4⟩
    · rfl
    · rcases hob b h2.symm with h5 | h5
      · exact hs.inj i j b h5 h4
      · have := hs.block_lt h4; omega
    · rcases hob b h4.symm with h5 | h5
      · exact hs.inj i j b h2 h5
      · have := hs.block_lt h2; omega
    · exact hs.inj i j b h2 h4
  · rcases set_get? ho with ⟨rfl, h2, _⟩ | ⟨h1, h2⟩
    · injection h2 with q1 q2 q3; subst q1; subst q2; subst q3
      rcases hnew with ⟨b, cs, e, fz, k1, k2, k3, k4, k5, k6⟩ | ⟨k1, k2⟩
      · exact .inl ⟨b, cs, e, fz, by show (g.ρ.set i ob)[i]? = _; rw [List.getElem?_set_self hidρ, k1], k2, k3, k4, k5, fun j p hp => let ⟨v, q1, q2⟩ := k6 j p hp; ⟨v, q1, q2.step hstep⟩⟩
      · exact .inr ⟨by show (g.ρ.set i ob)[i]? = _; rw [List.getElem?_set_self hidρ, k1], k2⟩
    · rcases hs.obj i sz1 es1 ver1 h2 with ⟨b, cs, e, fz, k1, k2, k3, k4, k5, k6⟩ | ⟨k1, k2⟩
      · exact .inl ⟨b, cs, e, fz, by show (g.ρ.set id ob)[i]? = _; rw [List.getElem?_set_ne (fun e => h1 e.symm)]; exact k1, by show w'.heap[b]? = _; rw [hold b (hs.block_lt k1) (fun e => h1 (hs.inj i id b k1 e))]; exact k2, k3, k4, k5, fun j p hp => let ⟨v, q1, q2⟩ := k6 j p hp; ⟨v, q1, q2.step hstep⟩⟩
      · exact .inr ⟨by show (g.ρ.set id ob)[i]? = _; rw [List.getElem?_set_ne (fun e => h1 e.symm)]; exact k1, k2⟩

/-- Cells are written. -/
theorem run_storeCells_soft {P : Program} {b o : Nat} {e : TypeId} {fz : Nat × Nat} : ∀ (vs : List Value) (i : Nat) (cs : Array Value) (w : World), w.heap[b]? = some (.cells cs e fz) → (∀ j, j < cs.size → ¬ (fz.1 ≤ j ∧ j < fz.2)) →
    o + i + vs.length ≤ cs.size → (∀ v ∈ vs, v.oneCell' = true) →
    ∃ w', (storeCells ⟨b, o, none⟩ vs i).run P w = .ok () w' ∧ w'.os = w.os ∧ w'.tape = w.tape ∧ w'.output = w.output ∧ w'.heap.size = w.heap.size ∧ (∀ k, k ≠ b → w'.heap[k]? = w.heap[k]?) ∧
      w'.heap[b]? = some (.cells ((vs.zipIdx i).foldl (fun cs (x : Value × Nat) => cs.setIfInBounds (o + x.2) x.1) cs) e fz)
  | [], i, cs, w, h, _, _, _ => ⟨w, rfl, rfl, rfl, rfl, rfl, fun _ _ => rfl, h⟩
  | v :: vs, i, cs, w, h, hsoft, hle, h1 => by
    have hlt : o + i < cs.size := by simp at hle; omega
    have hcell : w.cell? ((⟨b, o, none⟩ : Addr).add i) = some cs[o + i] := by rw [addr_add_mk]; simp [World.cell?, h, hlt]
    have hfz : w.frozen? ((⟨b, o, none⟩ : Addr).add i) = false := by
      rw [addr_add_mk]; simp only [World.frozen?, h]
      have := hsoft _ hlt
      simp; omega
    have hb : b < w.heap.size := (Array.getElem?_eq_some_iff.1 h).1
    have hset : (w.setCell ((⟨b, o, none⟩ : Addr).add i) v).heap[b]? = some (.cells (cs.setIfInBounds (o + i) v) e fz) := by
      rw [addr_add_mk]; simp [World.setCell, Array.getElem?_modify, h]
    have hle' : o + (i + 1) + vs.length ≤ (cs.setIfInBounds (o + i) v).size := by simp at hle ⊢; omega
    obtain ⟨w', r1, r2, r3, r4, r5, r6, r7⟩ := run_storeCells_soft vs (i + 1) (cs.setIfInBounds (o + i) v) _ hset (by simpa using hsoft) hle' (fun u hu => h1 u (List.mem_cons_of_mem _ hu))
    refine ⟨w', ?_, r2, r3, r4, by rw [r5]; simp [World.setCell], fun k hk => ?_, by rw [r7]; rfl⟩
    · simp only [storeCells, Sem.run_bind]
      rw [run_store P w _ v .plain (h1 v (List.mem_cons_self ..)), hcell]
      simp only [hfz, Bool.false_eq_true, if_false, Result.andThen_ok]
      exact r1
    · rw [r6 k hk, addr_add_mk]
      simp only [World.setCell, Array.getElem?_modify]
      rw [if_neg (fun e => hk e.symm)]
end

section
variable {P : Program} {g : G} {fr : List PV} {a : Act} {o : Oper} {p : PV} {σ' : List AObj}

theorem setCells_cells {e : PV} {off : Nat} {new : List PV} {n : Nat} (hn : new.length = n) (h0 : 0 < n) (hle : off + n ≤ e.cells.length) (hone : ∀ q ∈ new, q.one = true) : (setCells e off new).cells.length = e.cells.length ∧
    ∀ k : Nat, (setCells e off new).cells[k]? = if off ≤ k ∧ k < off + n then new[k - off]? else e.cells[k]? := by
  subst hn
  by_cases he : ∃ ps, e = .agg ps
  · obtain ⟨ps, rfl⟩ := he
    simp only [setCells, PV.cells] at hle ⊢
    refine ⟨by simp; omega, fun k => ?_⟩
    rcases Nat.lt_or_ge k off with h1 | h1
    · rw [if_neg (by omega), List.append_assoc, List.getElem?_append_left (by simp; omega), List.getElem?_take, if_pos h1]
    · rcases Nat.lt_or_ge k (off + new.length) with h2 | h2
      · rw [if_pos ⟨h1, h2⟩, List.append_assoc, List.getElem?_append_right (by simp; omega), List.getElem?_append_left (by simp; omega)]
        congr 1; simp; omega
      · rw [if_neg (by omega), List.getElem?_append_right (by simp; omega), List.getElem?_drop]
        congr 1; simp; omega
  · have hc : e.cells = [e] := by cases e <;> first | rfl | exact absurd ⟨_, rfl⟩ he
    have hs : setCells e off new = new.headD .any := by cases e <;> first | rfl | exact absurd ⟨_, rfl⟩ he
    rw [hc] at hle ⊢
    simp only [List.length_singleton] at hle ⊢
    obtain ⟨q, rfl⟩ := List.length_eq_one_iff.1 (show new.length = 1 by omega)
    have hoff : off = 0 := by simp at hle; omega
    subst hoff
    rw [hs]
    simp only [List.headD]
    rw [PV.one_cells (hone q (List.mem_singleton.2 rfl))]
    refine ⟨rfl, fun k => ?_⟩
    cases k with
    | zero => simp
    | succ k => simp

theorem okc_one {q : PV} (h : q.okc = true) : ∀ r ∈ q.cells, r.one = true := by
  cases q with
  | agg ps => simpa only [PV.okc, PV.cells, List.all_eq_true] using h
  | _ => intro r hr; simp only [PV.cells, List.mem_singleton] at hr; subst hr; exact h

theorem g_store {t : TypeId} {ad x : Operand} {n : Nat} (hs : St g) (hf : FR g fr a) (ho : o.op = .store t ad x) (hz : sizeIs P t n = true) (h : ai fr g.σ (.store n ad x) = some (p, σ')) : Gives P g o a p σ' := by
  have hra := hf.ev ad
  have hrx := hf.ev x
  simp only [ai] at h
  split at h
  · rename_i id ver i off had
    rw [had] at hra
    split at h
    · rename_i sz es ver' hσ
      split at h
      · rename_i hv; subst hv
        split at h
        · rename_i e he
          split at h
          · rename_i hb
            simp only [Bool.and_eq_true, decide_eq_true_eq] at hb
            obtain ⟨⟨⟨hb1, hb2⟩, hb3⟩, hb4⟩ := hb
            simp at h; obtain ⟨rfl, rfl⟩ := h
            obtain ⟨adr, e1, sz', es', v', e2, e3, e4⟩ := R_ptr.1 hra
            rw [hσ] at e2; simp at e2; obtain ⟨rfl, rfl, rfl⟩ := e2
            obtain ⟨k1, b, k2, rfl⟩ := e4 rfl
            rcases hs.obj id _ _ _ hσ with ⟨b', cs, el, fz, r1, r2, r3, r4, r5, r6⟩ | ⟨r1, r2⟩
            · rw [k2] at r1; simp at r1; subst r1
              have hem := List.mem_of_getElem? he
              have hsz : e.cells.length = sz := r4 e hem
              have hcells := hrx.cells hb1
              have hlen : (a.eval x).cells.toList.length = n := by rw [hcells.1.1, hb2]
              have hisz : i * sz + sz ≤ cs.size := Nat.le_trans (by rw [← Nat.succ_mul]; exact Nat.mul_le_mul_right _ k1) r5
              obtain ⟨w', f1, f2, f3, f4, f5, f6, f7⟩ := run_storeCells_soft (P := P) (o := i * sz + off) (a.eval x).cells.toList 0 cs g.w r2 r3 (by omega) hcells.2
              have hget := fun k => foldl_set_get (i * sz + off) k (a.eval x).cells.toList 0 cs
              have hsize := (hget 0).1
              obtain ⟨c1, c2⟩ := setCells_cells (off := off) hb2 hb3 hb4 (okc_one hb1)
              have hone : (setCells e off (aev fr x).cells).cells.length = sz := c1.trans hsz
              have hu : Rs g (setCells e off (aev fr x).cells).cells ((cs.toList.drop (i * sz)).take off ++ (a.eval x).cells.toList ++ (cs.toList.drop (i * sz + off + n)).take (sz - off - n)) := by
                refine ⟨by simp [hone, hlen]; simp at hlen; omega, fun j q v hq hv => ?_⟩
                rw [c2] at hq
                have hold : ∀ j', j' < sz → ∀ q v, e.cells[j']? = some q → cs[i * sz + j']? = some v → R g q v := by
                  intro j' hj' q v hq hv
                  obtain ⟨v', q1, q2⟩ := r6 (i * sz + j') q (by rw [flat_get r4 he hj']; exact hq)
                  rw [hv] at q1; injection q1 with q1; subst q1; exact q2
                rcases Nat.lt_or_ge j off with h1 | h1
                · rw [if_neg (by omega)] at hq
                  rw [List.append_assoc, List.getElem?_append_left (by simp; omega), List.getElem?_take, if_pos h1, List.getElem?_drop] at hv
                  exact hold j (by omega) q v hq (by simpa using hv)
                · rcases Nat.lt_or_ge j (off + n) with h2 | h2
                  · rw [if_pos ⟨h1, h2⟩] at hq
                    rw [List.append_assoc, List.getElem?_append_right (by simp; omega), List.getElem?_append_left (by simp; simp at hlen; omega)] at hv
                    have hlt : ((cs.toList.drop (i * sz)).take off).length = off := by simp; omega
                    rw [hlt] at hv
                    exact hcells.1.2 _ q v hq hv
                  · rw [if_neg (by omega)] at hq
                    have hjs : j < sz := by have := (List.getElem?_eq_some_iff.1 hq).1; omega
                    have hlt : ((cs.toList.drop (i * sz)).take off ++ (a.eval x).cells.toList).length = off + n := by rw [List.length_append, hlen]; simp; omega
                    rw [List.getElem?_append_right (by rw [hlt]; exact h2), hlt, List.getElem?_take, if_pos (by omega), List.getElem?_drop] at hv
                    rw [show i * sz + off + n + (j - (off + n)) = i * sz + j by omega] at hv
                    exact hold j hjs q v hq (by simpa using hv)
              have h0 : 0 < sz := by omega
              obtain ⟨s1, s2⟩ := set_cells (g := g) (i := i) (sz := sz) (cs := cs) (cs' := ((a.eval x).cells.toList.zipIdx 0).foldl (fun cs (x : Value × Nat) => cs.setIfInBounds (i * sz + off + x.2) x.1) cs) h0 r4 k1 hone hu r6 (fun k => by
                rw [(hget k).2]
                rw [Nat.add_zero, hlen]
                by_cases hk : i * sz ≤ k ∧ k < i * sz + sz ∧ k < cs.size
                · rw [if_pos hk]
                  rcases Nat.lt_or_ge k (i * sz + off) with h1 | h1
                  · rw [if_neg (by omega), List.append_assoc, List.getElem?_append_left (by simp; omega), List.getElem?_take, if_pos (by omega), List.getElem?_drop]
                    rw [show i * sz + (k - i * sz) = k by omega]; simp
                  · rcases Nat.lt_or_ge k (i * sz + off + n) with h2 | h2
                    · rw [if_pos (by omega), List.append_assoc, List.getElem?_append_right (by simp; omega), List.getElem?_append_left (by simp; simp at hlen; omega)]
                      congr 1; simp; omega
                    · rw [if_neg (by omega)]
                      have hlt : ((cs.toList.drop (i * sz)).take off ++ (a.eval x).cells.toList).length = off + n := by rw [List.length_append, hlen]; simp; omega
                      rw [List.getElem?_append_right (by rw [hlt]; omega), hlt, List.getElem?_take, if_pos (by omega), List.getElem?_drop]
                      rw [show i * sz + off + n + (k - i * sz - (off + n)) = k by omega]; simp
                · rw [if_neg hk, if_neg (by omega)])
              obtain ⟨u1, u2⟩ := hs.upd (es' := es.set i (setCells e off (aev fr x).cells)) (ver' := ver) (ob := some b) hσ f2 f3 f4 (by omega) (fun k _ hk => f6 k (fun e => hk (by rw [k2, e]))) (fun b' hb' => by injection hb' with hb'; subst hb'; exact .inl k2) (Nat.le_refl _) (fun _ => ⟨by simp, k2, fun b' hb' => by
                injection hb' with hb'; subst hb'
                unfold blockSize; rw [f7, r2]; simp [hsize]⟩) (.inl ⟨b, _, el, fz, rfl, f7, by rw [hsize]; exact r3, s1, by rw [hsize]; simpa using r5, s2⟩) (fun hv b' hb' => by
                injection hb' with hb'; subst hb'
                obtain ⟨cs0, fr0, k0⟩ := hs.ty id b _ _ _ hσ hv k2
                rw [r2] at k0; injection k0 with k0; injection k0 with _ k0 _
                exact ⟨_, _, by rw [f7, k0]⟩)
              have hρ : g.ρ.set id (some b) = g.ρ := by
                apply List.ext_getElem?
                intro j
                by_cases hj : id = j
                · subst hj; rw [List.getElem?_set_self (List.getElem?_eq_some_iff.1 k2).1, k2]
                · rw [List.getElem?_set_ne hj]
              refine ⟨.skip, undef, w', _, ?_, .inr ⟨rfl, rfl⟩, u1, u2, R_any _ _⟩
              have hne : ¬ ((a.eval x).cells.size ≠ n) := by simpa using hlen
              unfold execOp
              simp [ho, e1, Instr.storeAt, Instr.sureAddr, storeVar, sizeIs_run hz]
              simp at hlen
              simp [hlen, f1]
            · subst r2; simp at he
          · cases h
        · cases h
      · cases h
    · cases h
  · cases h

end

end Aw
end Go.Proofs.Ytoliadfdklfmfaa
