/- The check that an operation is the one told, its types resolved over the program's tables; what runs. -/
import Derived.Test.YtegjfjckijmgcaaAw3
import Derived.Laws.Append
import Derived.Laws.AppendOwn
import Derived.Laws.CopyRow
set_option linter.unusedVariables false
set_option linter.unusedSimpArgs false
namespace Go.Proofs.Ytegjfjckijmgcaa
namespace Aw

/-! ### Equality of constants, as a test -/
def zeq1 : Value → Value → Bool
  | .bool a, .bool b => a == b
  | .int k a, .int k' b => k == k' && decide (a = b)
  | .string a, .string b => decide (a = b)
  | .pointer none, .pointer none => true
  | .slice none a b, .slice none c d => a == c && b == d
  | .map none, .map none => true
  | .nilFunc, .nilFunc => true
  | .nilIface, .nilIface => true
  | _, _ => false
def zeqs : List Value → List Value → Bool
  | [], [] => true
  | a :: as, b :: bs => zeq1 a b && zeqs as bs
  | _, _ => false
def zeq : Value → Value → Bool
  | .agg a, .agg b => zeqs a.toList b.toList
  | a, b => zeq1 a b
theorem zeq1_eq {a b : Value} (h : zeq1 a b = true) : a = b := by
  unfold zeq1 at h
  split at h <;> simp_all
theorem zeqs_eq : ∀ {a b : List Value}, zeqs a b = true → a = b
  | [], [], _ => rfl
  | [], _ :: _, h => by simp [zeqs] at h
  | _ :: _, [], h => by simp [zeqs] at h
  | a :: as, b :: bs, h => by
    simp only [zeqs, Bool.and_eq_true] at h
    rw [zeq1_eq h.1, zeqs_eq h.2]
theorem zeq_eq {a b : Value} (h : zeq a b = true) : a = b := by
  unfold zeq at h
  split at h
  · have := zeqs_eq h
    congr 1
    exact Array.toList_inj.1 this
  · exact zeq1_eq h
def oeq : Operand → Operand → Bool
  | .tmp a, .tmp b => a == b
  | .const a, .const b => zeq a b
  | .func a, .func b => a == b
  | _, _ => false
theorem oeq_eq {a b : Operand} (h : oeq a b = true) : a = b := by
  unfold oeq at h
  split at h
  · simp at h; rw [h]
  · rw [zeq_eq h]
  · simp at h; rw [h]
  · cases h
def ooeq : Option Operand → Option Operand → Bool
  | none, none => true
  | some a, some b => oeq a b
  | _, _ => false
theorem ooeq_eq {a b : Option Operand} (h : ooeq a b = true) : a = b := by
  unfold ooeq at h
  split at h
  · rfl
  · rw [oeq_eq h]
  · cases h
def oeqs : List Operand → List Operand → Bool
  | [], [] => true
  | a :: as, b :: bs => oeq a b && oeqs as bs
  | _, _ => false
theorem oeqs_eq : ∀ {a b : List Operand}, oeqs a b = true → a = b
  | [], [], _ => rfl
  | [], _ :: _, h => by simp [oeqs] at h
  | _ :: _, [], h => by simp [oeqs] at h
  | a :: as, b :: bs, h => by
    simp only [oeqs, Bool.and_eq_true] at h
    rw [oeq_eq h.1, oeqs_eq h.2]
def partsEq : List (Nat × Operand) → List (Nat × Operand) → Bool
  | [], [] => true
  | a :: as, b :: bs => a.1 == b.1 && oeq a.2 b.2 && partsEq as bs
  | _, _ => false
theorem partsEq_eq : ∀ {a b : List (Nat × Operand)}, partsEq a b = true → a = b
  | [], [], _ => rfl
  | [], _ :: _, h => by simp [partsEq] at h
  | _ :: _, [], h => by simp [partsEq] at h
  | (a, x) :: as, (b, y) :: bs, h => by
    simp only [partsEq, Bool.and_eq_true, beq_iff_eq] at h
    rw [h.1.1, oeq_eq h.1.2, partsEq_eq h.2]

/-! ### Types -/
section
variable (P : Program)
def isSliceOf (t e : TypeId) : Bool := match P.underlying t with | some (.slice e') => e' == e | _ => false
def sliceElem (t : TypeId) : Option TypeId := match P.underlying t with | some (.slice e) => some e | _ => none
def aggIs (t : TypeId) (b : Bool) : Bool := match P.underlying t with
  | some (.struct _) | some (.array _ _) => b
  | some _ => !b
  | none => false
def sizeIs (t : TypeId) (n : Nat) : Bool := match P.info? t with | some i => i.size == n | none => false
def bytesIs (t : TypeId) (n : Nat) : Bool := match P.info? t with | some i => i.bytes == n | none => false
def zeroIs (t : TypeId) (z : Value) : Bool := match P.info? t with
  | some i => (match i.zero with | some v => zeq v z | none => false)
  | none => false
def isStr (t : TypeId) : Bool := match P.underlying t with | some .string => true | _ => false
def isInt (t : TypeId) (k : IntKind) : Bool := match P.underlying t with | some (.int k') => k' == k | _ => false
def isBool (t : TypeId) : Bool := match P.underlying t with | some .bool => true | _ => false
def fkIs (t : TypeId) : FK → Bool
  | .b => isBool P t
  | .i k => isInt P t k
  | .s => isStr P t
/-- A struct's fields are these, one cell each, one behind the other. -/
def flatFrom (fs : List Field) (o : Nat) (ks : List FK) : Bool := match fs, ks with
  | [], [] => true
  | f :: r, k :: ks => f.offset == o && f.name != "_" && fkIs P f.type k && aggIs P f.type false && flatFrom r (o + 1) ks
  | _, _ => false
def isFlat (t : TypeId) (ks : List FK) : Bool := match P.underlying t with
  | some (.struct fs) => flatFrom P fs.toList 0 ks && !P.stoodInHeld t
  | _ => false
def placesOf (fs : Array Field) : Option (List (Nat × Nat)) := fs.toList.mapM (fun f => (P.info? f.type).map fun i => (f.offset, i.size))
def partSizes (fs : Array Field) : List (Nat × Operand) → List (Nat × Nat × Operand) → Bool
  | [], [] => true
  | (i, x) :: r, (off, n, y) :: r' => oeq x y && (match fs[i]? with | some f => f.offset == off && sizeIs P f.type n | none => false) && partSizes fs r r'
  | _, _ => false
def partSizesA (elem : TypeId) (sz : Nat) : List (Nat × Operand) → List (Nat × Nat × Operand) → Bool
  | [], [] => true
  | (i, x) :: r, (off, n, y) :: r' => oeq x y && (i * sz == off) && n == sz && partSizesA elem sz r r'
  | _, _ => false
def cellsOfZero (z : List Value) : Value → Bool
  | .agg cs => zeqs cs.toList z
  | _ => false

def isAppend (c : Call) : Bool := match c.callee with | .builtin .append => true | _ => false
def isIdxb (c : Call) (f : FuncId) : Bool := (match c.callee with | .value (.func f') => f' == f | _ => false) && (match P.funcs[f]? with | some fn => fn.name == "internal/bytealg.IndexByteString" && fn.origin == "" && fn.body.isNone | none => false)
def isMax (c : Call) : Bool := match c.callee with | .builtin .max => true | _ => false
def isLen (c : Call) : Bool := match c.callee with | .builtin .len => true | _ => false
def lenType (t : TypeId) (str : Bool) : Bool := match P.underlying t with | some (.slice _) => !str | some .string => str | _ => false
def noIntType (u : TypeId) : Bool := match P.underlying u with | some (.int _) => false | some _ => true | none => false
def zeroSize (e : TypeId) (sz : Nat) : Bool := match P.info? e with
  | some i => (match i.zero with | some z => z.cells.size == sz | none => false)
  | none => false
def appendTypes (ts : List TypeId) (sz bytes : Nat) : Bool := match ts with
  | [t, u] => (match P.underlying t with | some (.slice e) => sizeIs P e sz && bytesIs P e bytes && decide (0 < bytes) && decide (0 < sz) && zeroSize P e sz | _ => false) && noIntType P u
  | _ => false
def nilType (t : TypeId) : NK → Bool
  | .s => match P.underlying t with | some (.slice _) => true | _ => false
  | .p => match P.underlying t with | some (.pointer _) => true | _ => false
  | .f => match P.underlying t with | some (.func _ _ _) => true | _ => false
def nilOf : NK → Value
  | .s => .slice none 0 0
  | .p => .pointer none
  | .f => .nilFunc
def lenTypes (str : Bool) (ts : List TypeId) : Bool := match ts with | [t] => lenType P t str | _ => false

/-- The operation is the one told. -/
def chkI (o : Oper) (i : AI) : Bool :=
  match o.op, i with
  | .move x, .mv y => oeq x y
  | .assign x, .mv y => oeq x y
  | .pick c a b, .pick c' a' b' => oeq c c' && oeq a a' && oeq b b'
  | .load t a, .load n agg a' => oeq a a' && aggIs P t agg && (if agg then sizeIs P t n else n == 1)
  | .store t a x, .store n a' x' => oeq a a' && oeq x x' && sizeIs P t n
  | .fieldAddr s a f, .faddr a' off => oeq a a' && (match P.underlying s with
    | some (.struct fs) => (match fs[f]? with | some fl => fl.offset == off && (match P.info? fl.type with | some i => i.size != 0 | none => false) | none => false)
    | _ => false)
  | .field s x f, .field x' off n agg => oeq x x' && (match P.underlying s with
    | some (.struct fs) => (match fs[f]? with | some fl => fl.offset == off && aggIs P fl.type agg && (if agg then sizeIs P fl.type n else n == 1) | none => false)
    | _ => false)
  | .indexAddr t x ix, .iaddrS x' ix' sz => oeq x x' && oeq ix ix' && (match P.underlying t with | some (.slice e) => sizeIs P e sz | _ => false)
  | .indexAddr t x ix, .iaddrA x' ix' len sz => oeq x x' && oeq ix ix' && (match P.underlying t with | some (.array n e) => n == len && sizeIs P e sz | _ => false)
  | .index t x ix, .idxStr x' ix' => oeq x x' && oeq ix ix' && isStr P t
  | .index t x ix, .idxArr x' ix' len sz agg => oeq x x' && oeq ix ix' && (match P.underlying t with | some (.array n e) => n == len && sizeIs P e sz && aggIs P e agg && (agg || sz == 1) | _ => false)
  | .binOp op t x y _, .bin op' x' y' => decide (op = op') && oeq x x' && oeq y y'
  | .binOp op t x y _, .eqb neg x' y' => decide (op = if neg then BinOp.neq else BinOp.eql) && oeq x x' && oeq y y' && isBool P t
  | .binOp op t x y _, .eqst neg ks x' y' => decide (op = if neg then BinOp.neq else BinOp.eql) && oeq x x' && oeq y y' && isFlat P t ks && !(P.eqGuardType P.depth t)
  | .binOp op t x y _, .eqnil neg left k x' => decide (op = if neg then BinOp.neq else BinOp.eql) && (if left then oeq y x' else oeq x x') && nilType P t k && oeq (if left then x else y) (.const (nilOf k))
  | .unOp op _ x, .un op' x' => decide (op = op') && oeq x x'
  | .convert src dst x, .conv k x' => oeq x x' && (match P.underlying src, P.underlying dst with | some (.int _), some (.int k') => k' == k | _, _ => false)
  | .convert src dst x, .s2b x' => oeq x x' && (match P.underlying src, P.underlying dst with | some .string, some (.slice e) => isInt P e .u8 | _, _ => false)
  | .convert src dst x, .b2s x' => oeq x x' && (match P.underlying src, P.underlying dst with | some (.slice e), some .string => isInt P e .u8 | _, _ => false)
  | .extract x i, .ext x' i' => oeq x x' && i == i'
  | .nilCheck x, .nilc x' => oeq x x'
  | .call c, .idxb f x y => isIdxb P c f && oeqs c.args.toList [x, y]
  | .call c, .mx x y => isMax c && oeqs c.args.toList [x, y]
  | .call c, .len str x => isLen c && oeqs c.args.toList [x] && lenTypes P str c.argTypes.toList
  | .build t ps, .build zero ps' => (match P.info? t with | some i => (match i.zero with | some z => cellsOfZero zero z | none => false) | none => false) && zero.all (·.oneCell') && (match P.underlying t with
    | some (.struct fs) => (placesOf P fs).isSome && partSizes P fs ps.toList ps'
    | some (.array _ e) => (match P.info? e with | some i => partSizesA e i.size ps.toList ps' | none => false)
    | _ => false)
  | .buildSlice t len ps, .lits fz sz len' zero ps' => len == len' && partsEq ps.toList ps' && decide (len ≤ 16777216) && decide (0 < sz) && decide (len * sz ≤ 16777216) && decide ((pvOf zero).cells.length = sz) && (match P.underlying t with | some (.slice e) => sizeIs P e sz && zeroIs P e zero | _ => false)
  | .makeFunc fn first caps, .mkfn f caps' => (match fn with | .func f' => f' == f | _ => false) && first.isEmpty && oeqs caps.toList caps'
  | .slice t x lo hi mx, .slcS x' lo' hi' mx' sz => oeq x x' && ooeq lo lo' && ooeq hi hi' && ooeq mx mx' && (mx.isNone || hi.isSome) && (match P.underlying t with | some (.slice e) => sizeIs P e sz | _ => false)
  | .slice t x lo hi mx, .slcStr x' lo' hi' => oeq x x' && ooeq lo lo' && ooeq hi hi' && mx.isNone && isStr P t
  | .box _ x, .box _ x' => oeq x x'
  | .alloc t, .alloc zero => zeroIs P t zero
  | .call c, .append s x sz bytes => isAppend c && oeqs c.args.toList [s, x] && appendTypes P c.argTypes.toList sz bytes
  | .makeSlice t l c, .make l' c' sz bytes zero => oeq l l' && oeq c c' && decide (0 < sz) && decide ((pvOf zero).cells.length = sz) && (match P.underlying t with | some (.slice e) => sizeIs P e sz && bytesIs P e bytes && zeroIs P e zero | _ => false)
  | _, _ => false
end

theorem isBool_eq {P : Program} {t : TypeId} (h : isBool P t = true) : P.underlying t = some .bool := by
  unfold isBool at h
  split at h
  · assumption
  · cases h
theorem isStr_eq {P : Program} {t : TypeId} (h : isStr P t = true) : P.underlying t = some .string := by
  unfold isStr at h
  split at h
  · assumption
  · cases h
theorem isInt_eq {P : Program} {t : TypeId} {k : IntKind} (h : isInt P t k = true) : P.underlying t = some (.int k) := by
  unfold isInt at h
  split at h
  · simp at h; subst h; assumption
  · cases h
theorem sizeIs_run {P : Program} {t : TypeId} {n : Nat} (h : sizeIs P t n = true) (w : World) : (sizeOf t).run P w = .ok n w := by
  unfold sizeIs at h
  split at h
  · rename_i i hi
    have := (beq_iff_eq.1 h)
    simp [sizeOf, typeInfo, hi, this]
  · cases h
theorem bytesIs_run {P : Program} {t : TypeId} {n : Nat} (h : bytesIs P t n = true) : ∃ i, P.info? t = some i ∧ i.bytes = n := by
  unfold bytesIs at h
  split at h
  · rename_i i hi; exact ⟨i, hi, beq_iff_eq.1 h⟩
  · cases h
theorem zeroIs_run {P : Program} {t : TypeId} {z : Value} (h : zeroIs P t z = true) (w : World) : (zeroValue t).run P w = .ok z w := by
  unfold zeroIs at h
  split at h
  · rename_i i hi
    split at h
    · rename_i v hv
      have := zeq_eq h
      simp [zeroValue, typeInfo, hi, hv, this]
    · cases h
  · cases h
theorem aggIs_run {P : Program} {t : TypeId} {b : Bool} (h : aggIs P t b = true) (w : World) : (isAgg t).run P w = .ok b w := by
  unfold aggIs at h
  cases hu : P.underlying t with
  | none => simp [hu] at h
  | some d =>
    rw [hu] at h
    cases d <;> simp at h <;> subst h <;> simp [isAgg, run_underlying hu]

end Aw
end Go.Proofs.Ytegjfjckijmgcaa
