/- Each operation gives what is told: what a strings.Builder is made of. -/
import Derived.Test.YtoliadfdklfmfaaAw11
import Derived.Lib.Builder
import Derived.Lib.UnsafeStr
set_option linter.unusedVariables false
set_option linter.unusedSimpArgs false
namespace Go.Proofs.Ytoliadfdklfmfaa
namespace Aw
section
variable {P : Program} {g : G} {fr : List PV} {a : Act} {o : Oper} {p : PV} {σ' : List AObj}

theorem g_allocT {t : TypeId} {z : Value} (hs : St g) (ho : o.op = .alloc t) (hz : zeroIs P t z = true) (h : bldA g.σ (.allocT t z) [] = some (p, σ')) : Gives P g o a p σ' := by
  simp [bldA] at h; obtain ⟨rfl, rfl⟩ := h
  have hrun : (execOp a.eval o).run P g.w = .ok (.value (.pointer (some ⟨g.w.heap.size, 0, none⟩))) { g.w with heap := g.w.heap.push (.cells z.cells t) } := by
    unfold execOp
    simp [ho, Instr.alloc, zeroIs_run hz, newVar, newRow]
  have hc : Rs g (pvOf z).cells z.cells.toList := by
    rw [pvOf_cells]
    refine ⟨by simp, fun j q v hq hv => ?_⟩
    simp at hq hv
    obtain ⟨u, h1, rfl⟩ := hq
    rw [h1] at hv; injection hv with hv; subst hv; exact R_val.2 rfl
  have hp : Pushed g.w { g.w with heap := g.w.heap.push (.cells z.cells t) } (.cells z.cells t (0, 0)) := ⟨rfl, rfl, rfl, rfl⟩
  have hlen : z.cells.size = (pvOf z).cells.length := by have := hc.1; simpa using this
  obtain ⟨h1, h2⟩ := hs.pushV (verT (some t)) (sz := (pvOf z).cells.length) (es := [pvOf z]) hp (fun j _ => by simp) (fun x hx => by simp at hx; subst hx; rfl) (by simp [hlen]) (fun j r hr => by
    simp at hr
    obtain ⟨u, hu1, hu2⟩ := hc.get hr
    exact ⟨u, by simpa using hu1, hu2⟩) (verT_ty fun T0 h => by injection h)
  refine ⟨_, _, _, _, hrun, .inl rfl, h1, h2, R_ptr.2 ⟨_, rfl, (pvOf z).cells.length, [pvOf z], verT (some t), by simp, Nat.le_refl _, fun _ => ⟨by simp, g.w.heap.size, ?_, by simp⟩⟩⟩
  show (g.ρ ++ _)[g.σ.length]? = _
  rw [← hs.len]; simp

/-- Where a pointer of the state leads. -/
theorem ptr_at (hs : St g) {id ver i off sz : Nat} {es : List PV} {c : Value} (hr : R g (.ptr id ver i off) c) (hσ : g.σ[id]? = some (.row sz es ver)) :
    i < es.length ∧ ∃ b cs el fz, c = .pointer (some ⟨b, i * sz + off, none⟩) ∧ g.ρ[id]? = some (some b) ∧ g.w.heap[b]? = some (.cells cs el fz) ∧ (∀ j, j < cs.size → ¬ (fz.1 ≤ j ∧ j < fz.2)) ∧ (∀ x ∈ es, x.cells.length = sz) ∧ es.length * sz ≤ cs.size ∧
      ∀ (j : Nat) p, (es.flatMap PV.cells)[j]? = some p → ∃ v, cs[j]? = some v ∧ R g p v := by
  obtain ⟨ad, rfl, sz', es', v', e1, e2, e3⟩ := R_ptr.1 hr
  rw [hσ] at e1; simp at e1; obtain ⟨rfl, rfl, rfl⟩ := e1
  obtain ⟨hi, b, e4, rfl⟩ := e3 rfl
  rcases hs.obj id _ _ _ hσ with ⟨b', cs, el, fz, r1, r2, r3, r4, r5, r6⟩ | ⟨r1, r2⟩
  · rw [e4] at r1; simp at r1; subst r1
    exact ⟨hi, b, cs, el, fz, rfl, e4, r2, r3, r4, r5, r6⟩
  · rw [e4] at r1; simp at r1

theorem isUns_eq {t : TypeId} (h : isUns P t = true) : P.underlying t = some .unsafePointer := by
  unfold isUns at h
  split at h
  · assumption
  · cases h
theorem ptrTo_eq {t u : TypeId} (h : ptrTo P t = some u) : P.underlying t = some (.pointer u) := by
  unfold ptrTo at h
  split at h
  · rename_i v hv; injection h with h; subst h; exact hv
  · cases h
theorem sizedT_eq {t : TypeId} (h : sizedT P t = true) : ∃ j, P.info? t = some j ∧ j.size ≠ 0 := by
  unfold sizedT at h
  split at h
  · rename_i i hi; exact ⟨i, hi, by simpa using h⟩
  · cases h
theorem infoT_eq {t : TypeId} (h : infoT P t = true) : ∃ j, P.info? t = some j := Option.isSome_iff_exists.1 h

theorem g_uns {src dst u : TypeId} {x : Operand} (hs : St g) (hf : FR g fr a) (ho : o.op = .convert src dst x) (hd : isUns P dst = true) (hp : ptrTo P src = some u) (hz : sizedT P u = true) (h : bldA g.σ .uns [aev fr x] = some (p, σ')) : Gives P g o a p σ' := by
  have hr := hf.ev x
  cases hx : aev fr x with
  | ptr id ver i off =>
    rw [hx] at hr h
    simp only [bldA] at h
    split at h
    · rename_i sz es ver' hσ
      split at h
      · rename_i hb
        obtain ⟨rfl, hi, ho2⟩ := hb
        simp at h; obtain ⟨rfl, rfl⟩ := h
        obtain ⟨_, b, cs, el, fz, e1, e2, e3, e4, e5, e6, e7⟩ := ptr_at hs hr hσ
        obtain ⟨j, hj, hj0⟩ := sizedT_eq hz
        refine Gives.same hs (v := a.eval x) ?_ hr
        have hoff : i * sz + off < cs.size := by
          have : (i + 1) * sz ≤ es.length * sz := Nat.mul_le_mul_right _ (by omega)
          rw [Nat.succ_mul] at this; omega
        have hrun := Lib.run_to_unsafe (P := P) g.w (src := src) (dst := dst) ⟨b, i * sz + off, none⟩ (ptrTo_eq hp) (isUns_eq hd) hj hj0 (e := el) (cells := cs.size) (by simp [World.shape?, e3]) hoff
        unfold execOp
        simp [ho, e1, hrun]
      · cases h
    · cases h
  | _ => rw [hx] at h; simp [bldA] at h
/-- A variable lies at the head of a row of its own type. -/
theorem lies_self {T : TypeId} (hc : P.cellsOf T = 2) {n : Nat} (hn : 2 ≤ n) : liesAt P P.depth T (n / P.cellsOf T) 0 T 1 = true := by
  have hd : P.depth = (2 * (P.types.size + Made.depth) + 1) + 1 := rfl
  have h1 : 1 ≤ n / 2 := by omega
  rw [hd]
  simp only [liesAt, Bool.or_eq_true]
  left
  rw [hd]
  simp [rowAt, hc, sameLayout]
  omega
theorem g_funs {src dst T : TypeId} {x : Operand} (hs : St g) (hf : FR g fr a) (ho : o.op = .convert src dst x) (hd : isUns P src = true) (hc : P.cellsOf T = 2) (hp : ptrTo P dst = some T) (hz : infoT P T = true) (h : bldA g.σ (.funs T) [aev fr x] = some (p, σ')) : Gives P g o a p σ' := by
  have hr := hf.ev x
  cases hx : aev fr x with
  | ptr id ver i off =>
    rw [hx] at hr h
    simp only [bldA] at h
    split at h
    · rename_i sz es ver' hσ
      split at h
      · rename_i hb
        obtain ⟨rfl, hv, rfl, rfl, hl, rfl⟩ := hb
        simp at h; obtain ⟨rfl, rfl⟩ := h
        obtain ⟨_, b, cs, el, fz, e1, e2, e3, e4, e5, e6, e7⟩ := ptr_at hs hr hσ
        obtain ⟨j, hj⟩ := infoT_eq hz
        have hv2 : 1000000 ≤ ver := by
          have : 1 ≤ ver / 1000000 := by rw [hv]; exact Nat.le_add_left 1 T
          omega
        obtain ⟨cs1, fr1, k1⟩ := hs.ty id b _ _ _ hσ hv2 e2
        rw [e3] at k1; injection k1 with k1; injection k1 with _ k1 _
        have hel : el = T := by rw [k1, hv]; rfl
        subst hel
        have hn : 2 ≤ cs.size := by
          have : 1 * 2 ≤ es.length * 2 := Nat.mul_le_mul_right _ hl
          omega
        refine Gives.same hs (v := a.eval x) ?_ hr
        have hrun := Lib.run_from_unsafe (P := P) g.w (src := src) (dst := dst) ⟨b, 0, none⟩ (isUns_eq hd) (ptrTo_eq hp) hj (e := el) (cells := cs.size) (by simp [World.shape?, e3]) (lies_self hc hn)
        simp at e1
        unfold execOp
        simp [ho, e1, hrun]
      · cases h
    · cases h
  | _ => rw [hx] at h; simp [bldA] at h
theorem g_noesc {c : Call} {f : FuncId} {x : Operand} (hs : St g) (hf : FR g fr a) (ho : o.op = .call c) (hc : isNoesc P c f = true) (hx : oeqs c.args.toList [x] = true)
    (h : bldA g.σ (.noesc f) [aev fr x] = some (p, σ')) : Gives P g o a p σ' := by
  have hr := hf.ev x
  have hargs : c.args = #[x] := by have := oeqs_eq hx; apply Array.ext'; simpa using this
  simp [bldA] at h; obtain ⟨rfl, rfl⟩ := h
  simp only [isNoesc, Bool.and_eq_true] at hc
  obtain ⟨h1, h2⟩ := hc
  split at h1
  · rename_i f' hcal
    simp only [beq_iff_eq] at h1; subst h1
    split at h2
    · rename_i fn hfn
      simp only [Bool.and_eq_true, beq_iff_eq] at h2
      obtain ⟨⟨hn, hor⟩, hb⟩ := h2
      refine Gives.same hs (v := a.eval x) ?_ hr
      have hfind : Extern.find fn = some Extern.AbiNoEscape.same := by
        unfold Extern.find
        simp only [hn]
        rfl
      have hnext : Extern.findNext fn = none := by
        unfold Extern.findNext
        simp only [hn, hor]
        rfl
      have hrun := run_callFunc_extern (P := P) hfn (by rw [hn]; rfl) hb hnext hfind #[a.eval x] g.w
      rw [Lib.run_noEscape] at hrun
      unfold execOp
      simp only [ho, Sem.run_bind, resolve, hcal, Act.eval, Deferred.ofValue, Sem.run_pure, Result.andThen_ok, invoke, hargs]
      simp [hrun]
      cases x <;> simp [Act.eval]
    · cases h2
  · cases h1
theorem g_eqp {neg : Bool} {t t' u : TypeId} {x y : Operand} (hs : St g) (hf : FR g fr a) (ho : o.op = .binOp (if neg then BinOp.neq else BinOp.eql) t x y t') (hp : ptrTo P t = some u) (hz : infoT P u = true)
    (h : bldA g.σ (.eqp neg) [aev fr x, aev fr y] = some (p, σ')) : Gives P g o a p σ' := by
  have hrx := hf.ev x
  have hry := hf.ev y
  cases hx : aev fr x with
  | ptr id ver i off =>
    cases hy : aev fr y with
    | ptr id' ver2 i' off' =>
      rw [hx] at hrx h
      rw [hy] at hry h
      simp only [bldA] at h
      split at h
      · rename_i sz es ver' hσ
        split at h
        · rename_i hb
          obtain ⟨rfl, rfl, rfl, rfl, rfl⟩ := hb
          simp at h; obtain ⟨rfl, rfl⟩ := h
          obtain ⟨_, b, cs, el, fz, e1, e2, _⟩ := ptr_at hs hrx hσ
          obtain ⟨_, b', cs', el', fz', e1', e2', _⟩ := ptr_at hs hry hσ
          rw [e2] at e2'; simp at e2'; subst e2'
          obtain ⟨j, hj⟩ := infoT_eq hz
          refine Gives.same hs (v := .bool (!neg)) ?_ (R_val.2 rfl)
          have hE : ∀ d : Nat, (Op.equalIn (d + 1) t (.pointer (some ⟨b, i * sz + off, none⟩)) (.pointer (some ⟨b, i * sz + off, none⟩))).run P g.w = .ok true g.w := fun d => by
            simp [Op.equalIn, run_underlying (ptrTo_eq hp), sizeOf, typeInfo, hj, run_sameAddr_same]
          have hrun := Lib.run_neq_ptr_same (P := P) g.w (tp := t) (te := u) ⟨b, i * sz + off, none⟩ (ptrTo_eq hp) hj
          unfold execOp
          cases neg
          · simp [ho, e1, e1', eqGuard, binOp, Op.equal, Op.maxDepth, hE 9999]
          · simp [ho, e1, e1', eqGuard, hrun]
        · cases h
      · cases h
    | _ => rw [hx, hy] at h; simp [bldA] at h
  | _ => rw [hx] at h; simp [bldA] at h
/-- Append where a nil slice stays nil, and the row's type is known. -/
theorem g_appn {c : Call} {s x : Operand} {T : TypeId} {sz bytes : Nat} (hs : St g) (hf : FR g fr a) (ho : o.op = .call c) (hc : isAppend c = true) (hx : oeqs c.args.toList [s, x] = true) (ht : appendTypes P c.argTypes.toList sz bytes = true)
    (hT : (match c.argTypes.toList with | t :: _ => sliceElem P t == some T | _ => false) = true)
    (h : bldA g.σ (.appn T sz bytes) [aev fr s, aev fr x] = some (p, σ')) : Gives P g o a p σ' := by
  have hT0 : ∀ t u, c.argTypes.toList = [t, u] → ∀ T0, some T = some T0 → P.underlying t = some (.slice T0) := by
    intro t u hts T0 hTT
    injection hTT with hTT; subst hTT
    rw [hts] at hT
    simp only [beq_iff_eq] at hT
    unfold sliceElem at hT
    split at hT
    · rename_i e he; injection hT with hT; subst hT; exact he
    · cases hT
  have gen : appV g.σ (some T) (aev fr s) (aev fr x) sz bytes = some (p, σ') → Gives P g o a p σ' := g_appendV (some T) hs hf ho hc hx ht hT0
  simp only [bldA] at h
  split at h
  · rename_i hsv
    split at h
    · rename_i hys
      simp at h; obtain ⟨rfl, rfl⟩ := h
      have hcal := isAppend_eq hc
      have hargs : c.args = #[s, x] := by have := oeqs_eq hx; apply Array.ext'; simpa using this
      unfold appendTypes at ht
      split at ht
      · rename_i t u hts
        have htypes : c.argTypes = #[t, u] := by apply Array.ext'; simpa using hts
        simp only [Bool.and_eq_true] at ht
        obtain ⟨ht, hu⟩ := ht
        split at ht
        · rename_i e he
          simp only [Bool.and_eq_true, decide_eq_true_eq] at ht
          obtain ⟨⟨⟨⟨hsz, hby⟩, hb0⟩, h0⟩, hzs⟩ := ht
          obtain ⟨ti, z, hti, hz, hzc⟩ := zeroSize_eq hzs
          have htib : ti.bytes = bytes := by obtain ⟨i, h1, h2⟩ := bytesIs_run hby; rw [hti] at h1; injection h1 with h1; subst h1; exact h2
          have htis : ti.size = sz := by
            have h1 := sizeIs_run (P := P) hsz g.w
            simp [sizeOf, typeInfo, hti] at h1; exact h1
          have hrs := hf.ev s
          have hrx := hf.ev x
          rw [hsv, R_val] at hrs
          obtain ⟨hlen, news, hn1, hn2⟩ := more_sound (P := P) hs hrx hys h0 (fun y hy => by simp at hy)
          have hn0 : news = [] := by have := hn1.1; simp at this; exact this
          subst hn0
          have hrun := run_append_general (P := P) (w := g.w) (base := none) (sLen := 0) (sCap := 0) (ty := o.type) (olds := #[]) (news := #[]) (n := 0) he hu hti hz (fun w => by simpa using hlen w) (fun w' hw' => by rw [htis]; simpa using hn2 w' hw') (fun w' _ => by simp [Builtin.firstCells]) (by simp) (by rw [htib]; exact hb0)
          refine Gives.same hs (v := .slice none 0 0) ?_ (R_val.2 rfl)
          unfold execOp
          simp [ho, resolve, hcal, hargs, htypes, invoke, builtin, hrun, hrs, storeCells]
        · cases ht
      · cases ht
    · exact gen h
  · exact gen h
theorem isSdata_eq {c : Call} (h : isSdata c = true) : c.callee = .builtin .unsafeSliceData := by
  unfold isSdata at h
  split at h
  · assumption
  · cases h
theorem isUstr_eq {c : Call} (h : isUstr c = true) : c.callee = .builtin .unsafeString := by
  unfold isUstr at h
  split at h
  · assumption
  · cases h
theorem g_sdata {c : Call} {x : Operand} (hs : St g) (hf : FR g fr a) (ho : o.op = .call c) (hc : isSdata c = true) (hx : oeqs c.args.toList [x] = true)
    (h : bldA g.σ .sdata [aev fr x] = some (p, σ')) : Gives P g o a p σ' := by
  have hcal := isSdata_eq hc
  have hargs : c.args = #[x] := by have := oeqs_eq hx; apply Array.ext'; simpa using this
  have hr := hf.ev x
  cases hv : aev fr x with
  | val v =>
    rw [hv] at h hr
    rw [R_val] at hr
    unfold bldA at h
    split at h <;> first | (exfalso; simp_all; done) | skip
    all_goals first | (cases h; done) | skip
    rename_i h1 h2
    simp at h2; subst h2
    simp at h; obtain ⟨rfl, rfl⟩ := h
    have hrun := Lib.run_unsafeSliceData_nil (P := P) g.w c.argTypes o.type 0 0
    refine Gives.same hs (v := .pointer none) ?_ (R_val.2 rfl)
    unfold execOp
    simp [ho, resolve, hcal, hargs, invoke, builtin, hr, hrun]
  | own id ver off len =>
    rw [hv] at h hr
    simp only [bldA] at h
    split at h
    · rename_i sz es ver' hσ
      split at h
      · rename_i hb
        obtain ⟨rfl, rfl, rfl, hl⟩ := hb
        simp at h; obtain ⟨rfl, rfl⟩ := h
        obtain ⟨ad, cap, k1, k2, sz'', es', v'', k3, k4, k5⟩ := R_own.1 hr
        rw [hσ] at k3; simp at k3; obtain ⟨rfl, rfl, rfl⟩ := k3
        obtain ⟨q1, q2⟩ := k5 rfl
        rcases hs.obj id _ _ _ hσ with ⟨b, cs, el, fz, r1, r2, r3, r4, r5, r6⟩ | ⟨r1, r2⟩
        · simp only [r1] at q2
          obtain ⟨q3, _⟩ := q2
          have q3 := q3 (by omega)
          subst q3
          have hrun := Lib.run_unsafeSliceData_row (P := P) g.w c.argTypes o.type ⟨b, 0, none⟩ len cap (by omega)
          refine Gives.same hs (v := .pointer (some ⟨b, 0, none⟩)) ?_ (R_ptr.2 ⟨_, rfl, 1, es, ver, hσ, Nat.le_refl _, fun _ => ⟨by omega, b, r1, by simp⟩⟩)
          unfold execOp
          simp [ho, resolve, hcal, hargs, invoke, builtin, k1, hrun]
        · subst r2; simp at q1; omega
      · cases h
    · cases h
  | _ => rw [hv] at h; simp [bldA] at h

theorem numsOf_eq : ∀ {ps : List PV} {l : List Int}, numsOf ps = some l → ps = l.map fun n => .val (.int .u8 n)
  | [], l, h => by simp [numsOf] at h; subst h; rfl
  | q :: ps, l, h => by
    unfold numsOf at h
    split at h
    · rename_i h1; cases h1
    · rename_i n ps' h1
      injection h1 with h1 h2; subst h1; subst h2
      cases hq : numsOf ps with
      | none => rw [hq] at h; simp at h
      | some r => rw [hq] at h; simp at h; subst h; rw [numsOf_eq hq]; rfl
    · cases h
theorem flat_bytes : ∀ l : List Int, (l.map fun n => PV.val (.int .u8 n)).flatMap PV.cells = l.map fun n => PV.val (.int .u8 n)
  | [] => rfl
  | b :: l => by rw [List.map_cons, List.flatMap_cons, flat_bytes l]; rfl
theorem g_ustr {c : Call} {x y : Operand} {T pt it : TypeId} (hs : St g) (hf : FR g fr a) (ho : o.op = .call c) (hc : isUstr c = true) (hx : oeqs c.args.toList [x, y] = true) (ht : c.argTypes.toList = [pt, it]) (hp : ptrTo P pt = some T) (hz : P.cellsOf T = 1)
    (h : bldA g.σ (.ustr T) [aev fr x, aev fr y] = some (p, σ')) : Gives P g o a p σ' := by
  have hcal := isUstr_eq hc
  have hargs : c.args = #[x, y] := by have := oeqs_eq hx; apply Array.ext'; simpa using this
  have htypes : c.argTypes = #[pt, it] := by apply Array.ext'; simpa using ht
  have hrx := hf.ev x
  have hry := hf.ev y
  unfold bldA at h
  split at h <;> first | (rename_i heq _; cases heq; done) | (rename_i heq; cases heq; done) | skip
  · rename_i heq1 n heq
    injection heq with e1 e2; injection e2 with e2 _
    rw [e1, R_val] at hrx
    rw [e2, R_val] at hry
    split at h
    · rename_i h0; subst h0
      simp at h; obtain ⟨rfl, rfl⟩ := h
      have hrun := Lib.run_unsafeString_none (P := P) g.w pt it o.type none
      refine Gives.same hs (v := .string .empty) ?_ (R_val.2 rfl)
      unfold execOp
      simp [ho, resolve, hcal, hargs, htypes, invoke, builtin, hrx, hry, hrun]
    · cases h
  · rename_i T' id ver i off n heq1 heq
    injection heq1 with heq1; subst heq1
    injection heq with e1 e2; injection e2 with e2 _
    rw [e1] at hrx
    rw [e2, R_val] at hry
    split at h
    · rename_i sz es ver' hσ
      split at h
      · rename_i hb
        obtain ⟨rfl, hver, rfl, rfl, rfl, hn, hn0, hn1⟩ := hb
        split at h
        · rename_i l hl
          split at h
          · rename_i hall
            injection h with h; injection h with h1 h2; subst h1; subst h2
            obtain ⟨_, b, cs, el, fz, k1, k2, k3, k4, k5, k6, k7⟩ := ptr_at hs hrx hσ
            have hpl := numsOf_eq hl
            subst hpl
            have hfl : (l.map fun n => PV.val (.int .u8 n)).flatMap PV.cells = l.map fun n => PV.val (.int .u8 n) := by
              exact flat_bytes l
            rw [hfl] at k7
            simp only [List.length_map, Nat.mul_one] at hn k6 hn0 hn1
            subst hn
            have hv2 : 1000000 ≤ ver := by
              have : 1 ≤ ver / 1000000 := by rw [hver]; exact Nat.le_add_left 1 T
              omega
            obtain ⟨cs1, fr1, m1⟩ := hs.ty id b _ _ _ hσ hv2 k2
            rw [k3] at m1; injection m1 with m1; injection m1 with _ m1 _
            have hel : el = T := by rw [m1, hver]; rfl
            subst hel
            let L : List UInt8 := l.map fun n => n.toNat.toUInt8
            have hLl : L.length = l.length := by simp [L]
            have hrun := Lib.run_unsafeString_row (P := P) g.w pt it o.type el (ptrTo_eq hp) hz b cs.size (by simp [World.shape?, k3]) L (fun h0 => by rw [h0] at hLl; simp at hLl; omega) (by omega) (by omega) (fun j x hj => by
              have hj' : j < l.length := by have := (List.getElem?_eq_some_iff.1 hj).1; omega
              obtain ⟨v, q1, q2⟩ := k7 j (.val (.int .u8 l[j])) (by simp [hj'])
              rw [R_val] at q2; subst q2
              rw [addr_add_mk]
              simp only [World.cell?, k3]
              simp only [Nat.zero_add]
              rw [q1]
              have hx : x = l[j].toNat.toUInt8 := by
                have := hj; simp [L, hj'] at this; exact this.symm
              have hr := List.all_eq_true.1 hall l[j] (List.getElem_mem hj')
              simp only [Bool.and_eq_true, decide_eq_true_eq] at hr
              subst hx
              have : (l[j].toNat.toUInt8).toNat = l[j].toNat := by
                rw [Nat.toUInt8_eq, UInt8.toNat_ofNat']
                have : l[j].toNat < 256 := by have := hr.2; have := hr.1; omega
                exact Nat.mod_eq_of_lt this
              rw [this, Int.toNat_of_nonneg hr.1]; rfl)
            rw [hLl] at hrun
            have hstr : (⟨L.toArray⟩ : ByteArray) = strOfNums l := by simp [strOfNums, L]
            rw [hstr] at hrun
            have hk1 : a.eval x = .pointer (some ⟨b, 0, none⟩) := by simpa using k1
            have hw : ∀ k, k ≠ b → (g.w.freeze ⟨b, 0, none⟩ l.length).heap[k]? = g.w.heap[k]? := fun k hk => by
              unfold World.freeze
              rw [if_neg (by omega)]
              simp only [Array.getElem?_modify]
              rw [if_neg (fun e => hk e.symm)]
            have hsz : (g.w.freeze ⟨b, 0, none⟩ l.length).heap.size = g.w.heap.size := by
              unfold World.freeze
              rw [if_neg (by omega)]
              simp
            have hoth : (g.w.freeze ⟨b, 0, none⟩ l.length).os = g.w.os ∧ (g.w.freeze ⟨b, 0, none⟩ l.length).tape = g.w.tape ∧ (g.w.freeze ⟨b, 0, none⟩ l.length).output = g.w.output := by
              unfold World.freeze
              rw [if_neg (by omega)]
              exact ⟨rfl, rfl, rfl⟩
            obtain ⟨h1, h2⟩ := hs.upd (ver' := ver + 1) (es' := []) (ob := none) (w' := g.w.freeze ⟨b, 0, none⟩ l.length) hσ hoth.1 hoth.2.1 hoth.2.2 (by rw [hsz]; exact Nat.le_refl _)
              (fun k _ hk => hw k (fun e => hk (by rw [k2, e]))) (fun _ h => by cases h) (by omega) (fun h => by omega) (.inr ⟨rfl, rfl⟩) (fun _ _ h => by cases h)
            refine ⟨.value (.string (strOfNums l)), _, _, _, ?_, .inl rfl, h1, h2, R_val.2 rfl⟩
            unfold execOp
            simp [ho, resolve, hcal, hargs, htypes, invoke, builtin, hk1, hry, hrun]
          · cases h
        · cases h
      · cases h
    · cases h
  · cases h
end
end Aw
end Go.Proofs.Ytoliadfdklfmfaa
