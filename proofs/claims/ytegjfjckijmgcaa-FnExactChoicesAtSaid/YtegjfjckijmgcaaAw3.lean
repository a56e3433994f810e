/- Operations over abstract frames and states: what they give. -/
import Derived.Test.YtegjfjckijmgcaaAw2
import Derived.Laws.BytesArg
import Derived.Laws.Externs
set_option linter.unusedVariables false
set_option linter.unusedSimpArgs false
namespace Go.Proofs.Ytegjfjckijmgcaa
namespace Aw

/-- A zero value, or a constant, as an abstract value. -/
def pvOf : Value → PV
  | .agg cs => .agg (cs.toList.map .val)
  | v => .val v

/-- One cell, of a known form. -/
def PV.one : PV → Bool
  | .val v => v.oneCell'
  | .list _ _ _ => true
  | .fptr _ _ => true
  | .own _ _ _ _ => true
  | .ptr _ _ _ _ => true
  | .fn _ _ => true
  | _ => false
/-- A value of one cell, or a struct of such. -/
def PV.okc : PV → Bool
  | .agg ps => ps.all PV.one
  | p => p.one

/-- A byte of a string. -/
def bt (s : ByteArray) (i : Int) : Int := ((s.data.toList.getD i.toNat 0).toNat : Int)

/-! ### Values -/
def intBin (op : BinOp) (k : IntKind) (x y : Int) : Option Value :=
  match op with
  | .add => some (.int k (k.wrap (x + y)))
  | .sub => some (.int k (k.wrap (x - y)))
  | .mul => some (.int k (k.wrap (x * y)))
  | .quo => if y = 0 then none else some (.int k (k.wrap (x.tdiv y)))
  | .rem => if y = 0 then none else some (.int k (x.tmod y))
  | .and => some (.int k (k.wrap (BitVec.ofInt k.bits x &&& BitVec.ofInt k.bits y).toNat))
  | .or => some (.int k (k.wrap (BitVec.ofInt k.bits x ||| BitVec.ofInt k.bits y).toNat))
  | .xor => some (.int k (k.wrap (BitVec.ofInt k.bits x ^^^ BitVec.ofInt k.bits y).toNat))
  | .andNot => some (.int k (k.wrap (BitVec.ofInt k.bits x &&& ~~~(BitVec.ofInt k.bits y)).toNat))
  | .eql => some (.bool (decide (x = y)))
  | .neq => some (.bool (!decide (x = y)))
  | .lss => some (.bool (decide (x < y)))
  | .leq => some (.bool (decide (x ≤ y)))
  | .gtr => some (.bool (decide (y < x)))
  | .geq => some (.bool (decide (y ≤ x)))
  | _ => none
def intShift (op : BinOp) (k : IntKind) (x y : Int) : Option Value :=
  match op with
  | .shl => if y < 0 then none else some (.int k (k.wrap (x * 2 ^ (min y.toNat k.bits))))
  | .shr => if y < 0 then none else some (.int k (x.fdiv (2 ^ (min y.toNat k.bits))))
  | _ => none
def strBin (op : BinOp) (x y : ByteArray) : Option Value :=
  match op with
  | .add => if x.size + y.size ≤ 9223372036854775807 then some (.string (x ++ y)) else none
  | .eql => some (.bool (decide (x = y)))
  | .neq => some (.bool (!decide (x = y)))
  | .lss => some (.bool (Op.bytesLess x.data.toList y.data.toList))
  | .gtr => some (.bool (!(Op.bytesLess x.data.toList y.data.toList || decide (x = y))))
  | _ => none
/-- Operators on whole numbers and strings: no type is asked. -/
def binV (op : BinOp) : Value → Value → Option Value
  | .int k x, .int k' y => match op with
    | .shl => intShift .shl k x y
    | .shr => intShift .shr k x y
    | op => if k = k' then intBin op k x y else none
  | .string x, .string y => strBin op x y
  | _, _ => none
/-- What a struct's field is: a bool, a whole number, a string. -/
inductive FK where
  | b
  | i (k : IntKind)
  | s
  deriving DecidableEq
/-- Equality of one-cell values. -/
def eqV : FK → PV → PV → Option Bool
  | .b, .val (.bool x), .val (.bool y) => some (decide (x = y))
  | .i k, .val (.int k1 x), .val (.int k2 y) => if k1 = k ∧ k2 = k then some (decide (x = y)) else none
  | .s, .val (.string x), .val (.string y) => some (decide (x = y))
  | _, _, _ => none
/-- Field by field, in order. -/
def eqVs : List FK → List PV → List PV → Option Bool
  | [], [], [] => some true
  | k :: ks, x :: xs, y :: ys => match eqV k x y, eqVs ks xs ys with
    | some b, some c => some (b && c)
    | _, _ => none
  | _, _, _ => none
/-- What may be nil. -/
inductive NK where
  | s
  | p
  | f
  deriving DecidableEq
/-- Is it nil? -/
def nilA : NK → PV → Option Bool
  | .s, .val (.slice none 0 0) => some true
  | .s, .tl _ _ => some false
  | .s, .list _ (_ :: _) _ => some false
  | .p, .val (.pointer none) => some true
  | .p, .fptr _ _ => some false
  | .p, .ptr _ _ _ _ => some false
  | .f, .val .nilFunc => some true
  | .f, .fn _ _ => some false
  | _, _ => none

/-! ### Slices and memory -/
/-- The elements of a slice. -/
def elemsA (σ : List AObj) : PV → Option (List PV)
  | .list _ xs _ => some xs
  | .own id ver off len => match σ[id]? with
    | some (.row _ es ver') => if ver = ver' then some ((es.drop off).take len) else none
    | _ => none
  | .val (.slice none 0 0) => some []
  | _ => none
def lenA : PV → Option Nat
  | .list _ xs _ => some xs.length
  | .tl _ xs => some xs.length
  | .own _ _ _ len => some len
  | .val (.slice none 0 0) => some 0
  | _ => none
def lenS : PV → Option Nat
  | .val (.string s) => some s.size
  | _ => none
/-- The elements that an append takes from its second operand: strings, too. -/
def moreA (σ : List AObj) : PV → Option (List PV)
  | .tl _ xs => some xs
  | .val (.string s) => some (s.data.toList.map fun b => .val (.int .u8 b.toNat))
  | p => elemsA σ p
def setCells (e : PV) (off : Nat) (new : List PV) : PV :=
  match e with
  | .agg ps => .agg (ps.take off ++ new ++ ps.drop (off + new.length))
  | _ => new.headD .any
def setObj' (σ : List AObj) (id : Nat) (o : AObj) : List AObj := σ.set id o
/-- The numbers of a list of bytes. -/
def numsOf : List PV → Option (List Int)
  | [] => some []
  | .val (.int .u8 n) :: ps => (numsOf ps).map fun l => n :: l
  | _ => none

/-- Operations, their types resolved. -/
inductive AI where
  | mv (x : Operand)
  | pick (c a b : Operand)
  | load (n : Nat) (agg : Bool) (a : Operand)
  | store (n : Nat) (a x : Operand)
  | faddr (a : Operand) (off : Nat)
  | field (x : Operand) (off n : Nat) (agg : Bool)
  | iaddrS (x i : Operand) (sz : Nat)
  | iaddrA (x i : Operand) (len sz : Nat)
  | idxStr (x i : Operand)
  | idxArr (x i : Operand) (len sz : Nat) (agg : Bool)
  | idxb (f : FuncId) (x c : Operand)
  | bin (op : BinOp) (x y : Operand)
  | mx (x y : Operand)
  | eqb (neg : Bool) (x y : Operand)
  | eqst (neg : Bool) (ks : List FK) (x y : Operand)
  | eqnil (neg : Bool) (left : Bool) (k : NK) (x : Operand)
  | un (op : UnOp) (x : Operand)
  | conv (k : IntKind) (x : Operand)
  | s2b (x : Operand)
  | b2s (x : Operand)
  | ext (x : Operand) (i : Nat)
  | nilc (x : Operand)
  | len (str : Bool) (x : Operand)
  | build (zero : List Value) (parts : List (Nat × Nat × Operand))
  | lits (fz : Bool) (sz len : Nat) (zero : Value) (parts : List (Nat × Operand))
  | mkfn (f : FuncId) (caps : List Operand)
  | slcS (x : Operand) (lo hi mx : Option Operand) (sz : Nat)
  | slcStr (x : Operand) (lo hi : Option Operand)
  | box (fz : Bool) (x : Operand)
  | alloc (zero : Value)
  | append (s x : Operand) (sz bytes : Nat)
  | make (l c : Operand) (sz bytes : Nat) (zero : Value)

/-- An optional bound: its place. -/
def bnd (fr : List PV) (d : Nat) : Option Operand → Option Nat
  | none => some d
  | some x => match aev fr x with
    | .val (.int _ n) => if 0 ≤ n then some n.toNat else none
    | _ => none

def setAll (l : List PV) : List (Nat × PV) → List PV
  | [] => l
  | (i, p) :: r => setAll (l.set i p) r
/-- Parts of a struct laid into its cells. -/
def putParts (fr : List PV) : List PV → List (Nat × Nat × Operand) → Option (List PV)
  | cs, [] => some cs
  | cs, (off, n, x) :: r =>
    let p := aev fr x
    if p.okc && decide (p.cells.length = n) && decide (off + n ≤ cs.length) then putParts fr (cs.take off ++ p.cells ++ cs.drop (off + n)) r else none

/-- What an operation gives and behind which state; none: not told. -/
def ai (fr : List PV) (σ : List AObj) : AI → Option (PV × List AObj)
  | .mv x => some (aev fr x, σ)
  | .pick c a b => match aev fr c with
    | .val (.bool t) => some (if t then aev fr a else aev fr b, σ)
    | _ => none
  | .load n agg a => (loadA σ (aev fr a) n agg).map fun p => (p, σ)
  | .store n a x => match aev fr a with
    | .ptr id ver i off => match σ[id]? with
      | some (.row sz es ver') =>
        if ver = ver' then
          match es[i]? with
          | some e =>
            let p := aev fr x
            if p.okc && decide (p.cells.length = n) && decide (0 < n) && decide (off + n ≤ e.cells.length) then some (.any, σ.set id (.row sz (es.set i (setCells e off p.cells)) ver)) else none
          | none => none
        else none
      | none => none
    | _ => none
  | .faddr a off => match aev fr a with
    | .fptr cs o => some (.fptr cs (o + off), σ)
    | .ptr id ver i o => some (.ptr id ver i (o + off), σ)
    | _ => none
  | .field x off n agg => match aev fr x with
    | .agg ps => if off + n ≤ ps.length then (if agg then some (.agg ((ps.drop off).take n), σ) else (ps[off]?).map fun p => (p, σ)) else none
    | _ => none
  | .iaddrS x i sz => match aev fr i with
    | .val (.int _ n) => match aev fr x with
      | .list sz' xs _ => if 0 ≤ n ∧ n < xs.length ∧ sz' = sz then (xs[n.toNat]?).map fun e => (.fptr e.cells 0, σ) else none
      | .own id ver off len => match σ[id]? with
        | some (.row sz' es ver') => if ver = ver' ∧ sz' = sz ∧ 0 ≤ n ∧ n < len then some (.ptr id ver (off + n.toNat) 0, σ) else none
        | none => none
      | _ => none
    | _ => none
  | .iaddrA x i len sz => match aev fr i with
    | .val (.int _ n) => if 0 ≤ n ∧ n < len then
        match aev fr x with
        | .fptr cs o => some (.fptr cs (o + n.toNat * sz), σ)
        | .ptr id ver j o => some (.ptr id ver j (o + n.toNat * sz), σ)
        | _ => none
      else none
    | _ => none
  | .idxStr x i => match aev fr x, aev fr i with
    | .val (.string s), .val (.int _ n) => if 0 ≤ n ∧ n < s.size then some (.val (.int .u8 (bt s n)), σ) else none
    | _, _ => none
  | .idxArr x i len sz agg => match aev fr x, aev fr i with
    | .agg ps, .val (.int _ n) => if 0 ≤ n ∧ n < len ∧ ps.length = len * sz then
        (if agg then some (.agg ((ps.drop (n.toNat * sz)).take sz), σ) else (ps[n.toNat * sz]?).map fun p => (p, σ)) else none
    | _, _ => none
  | .idxb _ x c => match aev fr x, aev fr c with
    | .val (.string s), .val (.int .u8 n) => some (.val (.int .i64 (firstIdx s n.toNat.toUInt8)), σ)
    | _, _ => none
  | .bin op x y => match aev fr x, aev fr y with
    | .val a, .val b => (binV op a b).map fun v => (.val v, σ)
    | _, _ => none
  | .mx x y => match aev fr x, aev fr y with
    | .val (.int k m), .val (.int _ n) => some (.val (.int k (max m n)), σ)
    | _, _ => none
  | .eqb neg x y => (eqV .b (aev fr x) (aev fr y)).map fun t => (.val (.bool (if neg then !t else t)), σ)
  | .eqst neg ks x y => match aev fr x, aev fr y with
    | .agg a, .agg b => (eqVs ks a b).map fun t => (.val (.bool (if neg then !t else t)), σ)
    | _, _ => none
  | .eqnil neg _ k x => (nilA k (aev fr x)).map fun t => (.val (.bool (if neg then !t else t)), σ)
  | .un .not x => match aev fr x with
    | .val (.bool b) => some (.val (.bool (!b)), σ)
    | _ => none
  | .un .neg x => match aev fr x with
    | .val (.int k n) => some (.val (.int k (k.wrap (0 - n))), σ)
    | _ => none
  | .un _ _ => none
  | .conv k x => match aev fr x with
    | .val (.int _ n) => some (.val (.int k (k.wrap n)), σ)
    | _ => none
  | .s2b x => match aev fr x with
    | .val (.string s) => some (.own σ.length 0 0 s.size, σ ++ [.row 1 (s.data.toList.map fun b => .val (.int .u8 b.toNat)) 0])
    | _ => none
  | .b2s x => match elemsA σ (aev fr x) with
    | some ps => (numsOf ps).map fun l => (.val (.string (strOfNums l)), σ)
    | none => none
  | .ext x i => match aev fr x with
    | .tup ps => (ps[i]?).map fun p => (p, σ)
    | _ => none
  | .nilc x => match aev fr x with
    | .fptr cs o => some (.fptr cs o, σ)
    | .ptr id ver i o => some (.ptr id ver i o, σ)
    | .fn f caps => some (.fn f caps, σ)
    | _ => none
  | .len str x => (if str then lenS (aev fr x) else lenA (aev fr x)).map fun n => (.val (.int .i64 n), σ)
  | .build zero parts => (putParts fr (zero.map .val) parts).map fun cs => (.agg cs, σ)
  | .lits fz sz len zero parts =>
    let es := setAll (List.replicate len (pvOf zero)) (parts.map fun q => (q.1, aev fr q.2))
    if es.length = len ∧ (parts.all fun q => (aev fr q.2).okc && decide ((aev fr q.2).cells.length = sz) && decide (q.1 < len)) then
      some (if fz then (if PV.bels 0 es then (.list sz es true, σ) else (.tl sz es, σ)) else (.own σ.length 0 0 len, σ ++ [.row sz es 0]))
    else none
  | .mkfn f caps => some (.fn f (caps.map (aev fr)), σ)
  | .slcS x lo hi mx sz => match aev fr x with
    | .list sz' xs ex => match bnd fr xs.length hi, bnd fr 0 lo with
      | some h, some l => if l ≤ h ∧ h ≤ xs.length ∧ sz' = sz then
          match mx with
          | none => some (.list sz ((xs.take h).drop l) (ex && decide (h = xs.length)), σ)
          | some m => match bnd fr 0 (some m) with
            | some m => if h ≤ m ∧ m ≤ xs.length then some (.list sz ((xs.take h).drop l) (decide (h = m)), σ) else none
            | none => none
        else none
      | _, _ => none
    | .own id ver off len => match σ[id]?, bnd fr len hi, bnd fr 0 lo with
      | some (.row sz' es ver'), some h, some l => if l ≤ h ∧ h ≤ len ∧ ver = ver' ∧ sz' = sz ∧ mx.isNone then some (.own id ver (off + l) (h - l), σ) else none
      | _, _, _ => none
    | .val (.slice none 0 0) => match bnd fr 0 hi, bnd fr 0 lo, bnd fr 0 mx with
      | some 0, some 0, some 0 => some (.val (.slice none 0 0), σ)
      | _, _, _ => none
    | _ => none
  | .slcStr x lo hi => match aev fr x with
    | .val (.string s) => match bnd fr s.size hi, bnd fr 0 lo with
      | some h, some l => if l ≤ h ∧ h ≤ s.size then some (.val (.string (s.extract l h)), σ) else none
      | _, _ => none
    | _ => none
  | .box fz x =>
    let p := aev fr x
    if p.okc ∧ (fz → p.bel 0) then some (if fz then (.fptr p.cells 0, σ) else (.ptr σ.length 0 0 0, σ ++ [.row p.cells.length [p] 0])) else none
  | .alloc zero => some (.ptr σ.length 0 0 0, σ ++ [.row (pvOf zero).cells.length [pvOf zero] 0])
  | .append s x sz bytes => match moreA σ (aev fr x) with
    | some ys => if ys.all fun y => y.okc && decide (y.cells.length = sz) then
        match aev fr s with
        | .own id ver off len => match σ[id]? with
          | some (.row sz' es ver') => if ver = ver' ∧ sz' = sz ∧ off = 0 ∧ len = es.length ∧ (len + ys.length) * bytes ≤ 140737488355328 then
              some (.own id (ver + 1) 0 (len + ys.length), σ.set id (.row sz (es ++ ys) (ver + 1))) else none
          | none => none
        | .list sz' xs true => if sz' = sz ∧ (xs.length + ys.length) * bytes ≤ 140737488355328 ∧ (xs = [] ∨ ys ≠ []) ∧ (xs.all fun y => y.okc) then some (.own σ.length 0 0 (xs.length + ys.length), σ ++ [.row sz (xs ++ ys) 0]) else none
        | .val (.slice none 0 0) => if ys.length * bytes ≤ 140737488355328 then some (.own σ.length 0 0 ys.length, σ ++ [.row sz ys 0]) else none
        | _ => none
      else none
    | none => none
  | .make l c sz bytes zero => match aev fr l, aev fr c with
    | .val (.int .i64 n), .val (.int .i64 m) => if 0 ≤ n ∧ n ≤ m ∧ m * bytes ≤ 281474976710656 ∧ m ≤ 281474976710656 then some (.own σ.length 0 0 n.toNat, σ ++ [.row sz (List.replicate n.toNat (pvOf zero)) 0]) else none
    | _, _ => none

end Aw
end Go.Proofs.Ytegjfjckijmgcaa
