/- Each operation gives what is told: equality, conversions, parts, cuts. -/
import Derived.Test.YtegjfjckijmgcaaAw6
import Derived.Laws.StructEq
set_option linter.unusedVariables false
set_option linter.unusedSimpArgs false
namespace Go.Proofs.Ytegjfjckijmgcaa
namespace Aw
section
variable {P : Program} {g : G} {fr : List PV} {a : Act} {o : Oper} {p : PV} {σ' : List AObj}

/-! ### Equality -/
theorem beq_bool (x y : Bool) : (x == y) = decide (x = y) := by cases x <;> cases y <;> rfl
theorem beq_bytes (x y : ByteArray) : (x == y) = decide (x = y) := by
  rw [beq_toListBytes, toList_data, toList_data, Bool.eq_iff_iff]
  simp
  constructor
  · intro e; cases x; cases y; simp at e; rw [e]
  · intro e; rw [e]
theorem eqV_run {t : TypeId} {k : FK} {x y : PV} {u v : Value} {b : Bool} {d : Nat} (h : eqV k x y = some b) (hx : R g x u) (hy : R g y v) (hk : fkIs P t k = true) (w : World) :
    (Op.equalIn (d + 1) t u v).run P w = .ok b w := by
  unfold eqV at h
  split at h
  · rw [R_val] at hx hy; subst hx; subst hy
    injection h with h; subst h
    simp [Op.equalIn, run_underlying (isBool_eq hk), beq_bool]
  · rw [R_val] at hx hy; subst hx; subst hy
    split at h
    · rename_i he
      obtain ⟨rfl, rfl⟩ := he
      injection h with h; subst h
      simp [Op.equalIn, run_underlying (isInt_eq hk), beq_int]
    · cases h
  · rw [R_val] at hx hy; subst hx; subst hy
    injection h with h; subst h
    simp [Op.equalIn, run_underlying (isStr_eq hk), beq_bytes]
  · cases h
theorem g_eqb {neg : Bool} {t t' : TypeId} {x y : Operand} (hs : St g) (hf : FR g fr a) (ho : o.op = .binOp (if neg then BinOp.neq else BinOp.eql) t x y t') (hb : P.underlying t = some .bool)
    (h : ai fr g.σ (.eqb neg x y) = some (p, σ')) : Gives P g o a p σ' := by
  have hx := hf.ev x
  have hy := hf.ev y
  simp only [ai] at h
  cases hq : eqV .b (aev fr x) (aev fr y) with
  | none => rw [hq] at h; simp at h
  | some b =>
    rw [hq] at h; simp at h; obtain ⟨rfl, rfl⟩ := h
    have hk : fkIs P t .b = true := by simp [fkIs, isBool, hb]
    have hr := eqV_run (P := P) (d := 9999) hq hx hy hk g.w
    have hub : ∃ m n, a.eval x = .bool m ∧ a.eval y = .bool n := by
      unfold eqV at hq
      split at hq
      · rename_i m n h1 h2 h3
        rw [h2, R_val] at hx; rw [h3, R_val] at hy
        exact ⟨m, n, hx, hy⟩
      · rename_i h1 _ _; cases h1
      · rename_i h1 _ _; cases h1
      · cases hq
    obtain ⟨m, n, e1, e2⟩ := hub
    rw [e1, e2] at hr
    refine Gives.same hs (v := .bool (if neg then !b else b)) ?_ (R_val.2 rfl)
    unfold execOp
    cases neg <;> simp [ho, e1, e2, eqGuard, binOp, Op.equal, Op.maxDepth, hr]

theorem eqVs_run {d : Nat} {w : World} {us0 vs0 : List Value} : ∀ {fs : List Field} {n : Nat} {ks : List FK} {xs ys : List PV} {us vs : List Value} {b : Bool}, eqVs ks xs ys = some b → flatFrom P fs n ks = true →
    us0.drop n = us → vs0.drop n = vs → Rs g xs us → Rs g ys vs → (Op.eqFields (d + 1) us0.toArray vs0.toArray fs).run P w = .ok b w := by
  intro fs
  induction fs with
  | nil =>
    intro n ks xs ys us vs b h hf _ _ _ _
    cases ks with
    | nil =>
      cases xs with
      | nil => cases ys with
        | nil => simp [eqVs] at h; subst h; simp [Op.eqFields]
        | cons y ys => simp [eqVs] at h
      | cons x xs => simp [eqVs] at h
    | cons k ks => simp [flatFrom] at hf
  | cons f fs ih =>
    intro n ks xs ys us vs b h hf hu hv hx hy
    cases ks with
    | nil => simp [flatFrom] at hf
    | cons k ks =>
      simp only [flatFrom, Bool.and_eq_true, beq_iff_eq, bne_iff_ne] at hf
      obtain ⟨⟨⟨⟨h1, h2⟩, h3⟩, h4⟩, h5⟩ := hf
      cases xs with
      | nil => simp [eqVs] at h
      | cons x xs =>
        cases ys with
        | nil => simp [eqVs] at h
        | cons y ys =>
          simp only [eqVs] at h
          split at h
          · rename_i b1 c1 e1 e2
            injection h with h; subst h
            obtain ⟨u, hu1, hu2⟩ := hx.get (j := 0) (q := x) (by simp)
            obtain ⟨v, hv1, hv2⟩ := hy.get (j := 0) (q := y) (by simp)
            have gu : us0[n]? = some u := by rw [← hu] at hu1; simpa using hu1
            have gv : vs0[n]? = some v := by rw [← hv] at hv1; simpa using hv1
            have pu : (part f.type us0.toArray f.offset).run P w = .ok u w := by simp [part, aggIs_run h4, h1, gu]
            have pv : (part f.type vs0.toArray f.offset).run P w = .ok v w := by simp [part, aggIs_run h4, h1, gv]
            have he := eqV_run (P := P) (d := d) e1 hu2 hv2 h3 w
            have hrest := ih (n := n + 1) (us := us.drop 1) (vs := vs.drop 1) e2 h5 (by rw [← hu, List.drop_drop, Nat.add_comm]) (by rw [← hv, List.drop_drop, Nat.add_comm]) (hx.drop 1) (hy.drop 1)
            cases b1 <;> simp [Op.eqFields, h2, pu, pv, he, hrest]
          · cases h

theorem g_eqst {neg : Bool} {ks : List FK} {t t' : TypeId} {x y : Operand} (hs : St g) (hf : FR g fr a) (ho : o.op = .binOp (if neg then BinOp.neq else BinOp.eql) t x y t') (hfl : isFlat P t ks = true) (hg : P.eqGuardType P.depth t = false)
    (h : ai fr g.σ (.eqst neg ks x y) = some (p, σ')) : Gives P g o a p σ' := by
  have hx := hf.ev x
  have hy := hf.ev y
  simp only [ai] at h
  split at h
  · rename_i ps qs e1 e2
    rw [e1] at hx; rw [e2] at hy
    obtain ⟨us, hu1, hu2⟩ := R_agg.1 hx
    obtain ⟨vs, hv1, hv2⟩ := R_agg.1 hy
    cases hq : eqVs ks ps qs with
    | none => rw [hq] at h; simp at h
    | some b =>
      rw [hq] at h; simp at h; obtain ⟨rfl, rfl⟩ := h
      unfold isFlat at hfl
      split at hfl
      · rename_i fs hfs
        simp only [Bool.and_eq_true, Bool.not_eq_true'] at hfl
        have hfo : P.underlying t = some (.struct (P.fieldsOf t)) := by simp [Program.fieldsOf, hfs]
        have hfl1 : flatFrom P (P.fieldsOf t).toList 0 ks = true := by simp [Program.fieldsOf, hfs, hfl.1]
        have hr := eqVs_run (P := P) (d := 9998) (w := g.w) hq hfl1 (List.drop_zero (l := us)) (List.drop_zero (l := vs)) hu2 hv2
        have he : (Op.equalIn 10000 t (.agg us.toArray) (.agg vs.toArray)).run P g.w = .ok b g.w := by
          rw [run_equalIn_struct g.w 9999 t _ _ hfo hfl.2, hr]
        refine Gives.same hs (v := .bool (if neg then !b else b)) ?_ (R_val.2 rfl)
        unfold execOp
        cases neg with
        | true => simp [ho, hu1, hv1, run_eqGuard_agg g.w _ t x y _ _ hg, run_neq_struct, he]
        | false => simp [ho, hu1, hv1, run_eqGuard_agg g.w _ t x y _ _ hg, run_eql_struct, he]
      · cases hfl
  · cases h

theorem eqnil_run {k : NK} {t : TypeId} {x : PV} {u : Value} {b : Bool} {d : Nat} (h : nilA k x = some b) (hx : R g x u) (ht : nilType P t k = true) (w : World) :
    (Op.equalIn (d + 1) t u (nilOf k)).run P w = .ok b w ∧ (Op.equalIn (d + 1) t (nilOf k) u).run P w = .ok b w := by
  unfold nilA at h
  split at h
  · rw [R_val] at hx; subst hx; injection h with h; subst h
    simp only [nilType] at ht; split at ht
    · rename_i e he; simp [nilOf, Op.equalIn, run_underlying he]
    · cases ht
  · obtain ⟨a, cap, rfl, ⟨_, hsm⟩, _⟩ := R_tl.1 hx; injection h with h; subst h
    simp only [nilType] at ht; split at ht
    · rename_i e he
      cases a with
      | none => cases hsm
      | some ad => simp [nilOf, Op.equalIn, run_underlying he]
    · cases ht
  · obtain ⟨a, cap, rfl, _, _, _, _, h6⟩ := R_list.1 hx; injection h with h; subst h
    obtain ⟨ad, rfl, _⟩ := h6 (by simp)
    simp only [nilType] at ht; split at ht
    · rename_i e he; simp [nilOf, Op.equalIn, run_underlying he]
    · cases ht
  · rw [R_val] at hx; subst hx; injection h with h; subst h
    simp only [nilType] at ht; split at ht
    · rename_i e he; simp [nilOf, Op.equalIn, run_underlying he]
    · cases ht
  · obtain ⟨ad, rfl, _⟩ := R_fptr.1 hx; injection h with h; subst h
    simp only [nilType] at ht; split at ht
    · rename_i e he; simp [nilOf, Op.equalIn, run_underlying he]
    · cases ht
  · obtain ⟨ad, rfl, _⟩ := R_ptr.1 hx; injection h with h; subst h
    simp only [nilType] at ht; split at ht
    · rename_i e he; simp [nilOf, Op.equalIn, run_underlying he]
    · cases ht
  · rw [R_val] at hx; subst hx; injection h with h; subst h
    simp only [nilType] at ht; split at ht
    · rename_i e he; simp [nilOf, Op.equalIn, run_underlying he]
    · cases ht
  · obtain ⟨ad, rfl, _⟩ := R_fn.1 hx; injection h with h; subst h
    simp only [nilType] at ht; split at ht
    · rename_i e he; simp [nilOf, Op.equalIn, run_underlying he]
    · cases ht
  · cases h
theorem nil_form {k : NK} {x : PV} {u : Value} {b : Bool} (h : nilA k x = some b) (hx : R g x u) : (∃ a m c, u = .slice a m c) ∨ (∃ q, u = .pointer q) ∨ u = .nilFunc ∨ (∃ f c d, u = .func f c d) := by
  unfold nilA at h
  split at h
  · rw [R_val] at hx; exact .inl ⟨_, _, _, hx⟩
  · obtain ⟨a, cap, e, _⟩ := R_tl.1 hx; exact .inl ⟨_, _, _, e⟩
  · obtain ⟨a, cap, e, _⟩ := R_list.1 hx; exact .inl ⟨_, _, _, e⟩
  · rw [R_val] at hx; exact .inr (.inl ⟨_, hx⟩)
  · obtain ⟨ad, e, _⟩ := R_fptr.1 hx; exact .inr (.inl ⟨_, e⟩)
  · obtain ⟨ad, e, _⟩ := R_ptr.1 hx; exact .inr (.inl ⟨_, e⟩)
  · rw [R_val] at hx; exact .inr (.inr (.inl hx))
  · obtain ⟨ad, e, _⟩ := R_fn.1 hx; exact .inr (.inr (.inr ⟨_, _, _, e⟩))
  · cases h
theorem g_eqnil {neg left : Bool} {t t' : TypeId} {x y x' : Operand} {k : NK} (hs : St g) (hf : FR g fr a) (ho : o.op = .binOp (if neg then BinOp.neq else BinOp.eql) t x y t')
    (hx' : (if left then y else x) = x') (ht : nilType P t k = true) (hn : (if left then x else y) = .const (nilOf k))
    (h : ai fr g.σ (.eqnil neg left k x') = some (p, σ')) : Gives P g o a p σ' := by
  simp only [ai] at h
  cases hq : nilA k (aev fr x') with
  | none => rw [hq] at h; simp at h
  | some b =>
    rw [hq] at h; simp at h; obtain ⟨rfl, rfl⟩ := h
    have hr := hf.ev x'
    obtain ⟨r1, r2⟩ := eqnil_run (P := P) (d := 9999) hq hr ht g.w
    refine Gives.same hs (v := .bool (if neg then !b else b)) ?_ (R_val.2 rfl)
    have hform := nil_form hq hr
    unfold execOp
    cases left with
    | false =>
      simp at hx' hn; subst hx'; subst hn
      have he : ∀ v, a.eval (.const v) = v := fun _ => rfl
      rcases hform with ⟨_, _, _, e⟩ | ⟨_, e⟩ | e | ⟨_, _, _, e⟩ <;> rw [e] at r1 <;> cases neg <;> cases k <;> simp [nilOf] at r1 <;> simp [ho, e, he, nilOf, eqGuard, binOp, Op.equal, Op.maxDepth, r1]
    | true =>
      simp at hx' hn; subst hx'; subst hn
      have he : ∀ v, a.eval (.const v) = v := fun _ => rfl
      rcases hform with ⟨_, _, _, e⟩ | ⟨_, e⟩ | e | ⟨_, _, _, e⟩ <;> rw [e] at r2 <;> cases neg <;> cases k <;> simp [nilOf] at r2 <;> simp [ho, e, he, nilOf, eqGuard, binOp, Op.equal, Op.maxDepth, r2]

/-! ### Others -/
theorem g_un {op : UnOp} {t : TypeId} {x : Operand} (hs : St g) (hf : FR g fr a) (ho : o.op = .unOp op t x) (h : ai fr g.σ (.un op x) = some (p, σ')) : Gives P g o a p σ' := by
  have hr := hf.ev x
  cases op with
  | not =>
    simp only [ai] at h
    split at h
    · rename_i b hx
      rw [hx, R_val] at hr
      simp at h; obtain ⟨rfl, rfl⟩ := h
      refine Gives.same hs (v := .bool (!b)) ?_ (R_val.2 rfl)
      unfold execOp; simp [ho, hr, Op.unary]
    · cases h
  | neg =>
    simp only [ai] at h
    split at h
    · rename_i k n hx
      rw [hx, R_val] at hr
      simp at h; obtain ⟨rfl, rfl⟩ := h
      refine Gives.same hs (v := .int k (k.wrap (-n))) ?_ (R_val.2 (by simp))
      unfold execOp; simp [ho, hr, Op.unary, Op.intArith]
    · cases h
  | _ => simp [ai] at h
theorem g_conv {src dst : TypeId} {x : Operand} {k k' : IntKind} (hs : St g) (hf : FR g fr a) (ho : o.op = .convert src dst x) (hsrc : P.underlying src = some (.int k')) (hdst : P.underlying dst = some (.int k))
    (h : ai fr g.σ (.conv k x) = some (p, σ')) : Gives P g o a p σ' := by
  have hr := hf.ev x
  simp only [ai] at h
  split at h
  · rename_i k1 n hx
    rw [hx, R_val] at hr
    simp at h; obtain ⟨rfl, rfl⟩ := h
    refine Gives.same hs (v := .int k (k.wrap n)) ?_ (R_val.2 rfl)
    unfold execOp; simp [ho, hr, convert, run_underlying hsrc, run_underlying hdst, Conv.intToInt]
  · cases h
theorem g_ext {x : Operand} {i : Nat} (hs : St g) (hf : FR g fr a) (ho : o.op = .extract x i) (h : ai fr g.σ (.ext x i) = some (p, σ')) : Gives P g o a p σ' := by
  have hr := hf.ev x
  simp only [ai] at h
  split at h
  · rename_i ps hx
    rw [hx] at hr
    obtain ⟨cs, e1, e2⟩ := R_tup.1 hr
    cases hq : ps[i]? with
    | none => rw [hq] at h; simp at h
    | some q =>
      rw [hq] at h; simp at h; obtain ⟨rfl, rfl⟩ := h
      obtain ⟨v, k1, k2⟩ := e2.get hq
      refine Gives.same hs (v := v) ?_ k2
      unfold execOp; simp [ho, e1, Instr.extract, k1]
  · cases h
theorem g_nilc {x : Operand} (hs : St g) (hf : FR g fr a) (ho : o.op = .nilCheck x) (h : ai fr g.σ (.nilc x) = some (p, σ')) : Gives P g o a p σ' := by
  have hr := hf.ev x
  simp only [ai] at h
  split at h
  · rename_i cs q hx
    simp at h; obtain ⟨rfl, rfl⟩ := h
    rw [hx] at hr
    obtain ⟨ad, e, _⟩ := R_fptr.1 hr
    refine Gives.same hs (v := a.eval x) ?_ hr
    unfold execOp; simp [ho, e]
  · rename_i id ver i q hx
    simp at h; obtain ⟨rfl, rfl⟩ := h
    rw [hx] at hr
    obtain ⟨ad, e, _⟩ := R_ptr.1 hr
    refine Gives.same hs (v := a.eval x) ?_ hr
    unfold execOp; simp [ho, e]
  · rename_i f caps hx
    simp at h; obtain ⟨rfl, rfl⟩ := h
    rw [hx] at hr
    obtain ⟨cs, e, _⟩ := R_fn.1 hr
    refine Gives.same hs (v := a.eval x) ?_ hr
    unfold execOp; simp [ho, e]
  · cases h
theorem g_mkfn {f : FuncId} {caps : Array Operand} (hs : St g) (hf : FR g fr a) (ho : o.op = .makeFunc (.func f) #[] caps) : Gives P g o a (.fn f (caps.toList.map (aev fr))) g.σ := by
  refine Gives.same hs (v := .func (.func f) #[] (caps.map a.eval)) ?_ (R_fn.2 ⟨caps.toList.map a.eval, ?_, ?_⟩)
  · unfold execOp; simp [ho, Instr.makeFunc]
  · congr 1; apply Array.ext'; simp
  · refine ⟨by simp, fun j q v hq hv => ?_⟩
    simp at hq hv
    obtain ⟨x, hx, rfl⟩ := hq
    obtain ⟨y, hy, rfl⟩ := hv
    rw [hx] at hy; injection hy with hy; subst hy
    exact hf.ev x

end

end Aw
end Go.Proofs.Ytegjfjckijmgcaa
