/- What a run of the program does, told over a plain heap of rows: the operations, the code, the calls. No condition. -/
import Derived.Calls
import Derived.Orders
import Derived.Below
import Derived.Laws.Sem
import Derived.Laws.Cells
set_option linter.unusedVariables false
set_option linter.unusedSimpArgs false
namespace Go.Proofs.Ytmbikamebhoelaa.Ai
open Go

/-- A row of memory: its cells, how many cells an element takes, whether the run itself has made it. -/
structure Row where
  cells : List Value
  esz : Nat
  own : Bool
abbrev Heap := List (Option Row)
abbrev Fr := Tmp → Value

def sl (id off len : Nat) : Value := .slice (some ⟨id, off, none⟩) len 0
def pt (id off : Nat) : Value := .pointer (some ⟨id, off, none⟩)
def nilS : Value := sl 0 0 0
def opq : Value := .chan none
def nv1 : Value → Value
  | .slice none _ _ => nilS
  | v => v
def nv : Value → Value
  | .agg cs => .agg (cs.map nv1)
  | v => nv1 v

def Fr.put (fr : Fr) (dst : Option Tmp) (v : Value) : Fr :=
  match dst with
  | some d => fun t => if t = d then v else fr t
  | none => fr
def ev (fr : Fr) : Operand → Value
  | .tmp t => fr t
  | .const v => nv v
  | .global _ => opq
  | .func f => .func (.func f) #[] #[]
def initFr (args : List Value) : Fr := fun t => args.getD t undef

def readRow (H : Heap) (id : Nat) : Option Row := (H[id]?).join
def tsz (P : Program) (t : TypeId) : Option Nat := (P.info? t).map (·.size)
def tby (P : Program) (t : TypeId) : Option Nat := (P.info? t).map (·.bytes)
def tagg (P : Program) (t : TypeId) : Option Bool :=
  (P.underlying t).map fun
    | .struct _ => true
    | .array _ _ => true
    | _ => false
def closedConst : Value → Bool
  | .bool _ | .int _ _ | .string _ | .slice none 0 0 | .nilFunc | .pointer none => true
  | _ => false
def tzero (P : Program) (t : TypeId) : Option Value :=
  (P.info? t).bind fun i => match i.zero with
    | some z => if z.cells.toList.all closedConst then some z else none
    | none => none
def telem (P : Program) (t : TypeId) : Option TypeId :=
  match P.underlying t with
  | some (.slice e) => some e
  | _ => none
def tarr (P : Program) (t : TypeId) : Option (Nat × TypeId) :=
  match P.underlying t with
  | some (.array n e) => some (n, e)
  | _ => none
/-- Where a field lies in its struct, and the field's type. -/
def tfield (P : Program) (t : TypeId) (f : Nat) : Option (Nat × TypeId) :=
  match P.underlying t with
  | some (.struct fs) => (fs[f]?).map fun x => (x.offset, x.type)
  | _ => none
def tkind (P : Program) (t : TypeId) : Option IntKind :=
  match P.underlying t with
  | some (.int k) => some k
  | _ => none
def tstr (P : Program) (t : TypeId) : Bool := P.underlying t matches some .string
def tbool (P : Program) (t : TypeId) : Bool := P.underlying t matches some .bool

/-- A value that one cell holds. -/
def scalar : Value → Bool
  | .bool _ | .int _ _ | .string _ | .pointer _ | .slice _ _ _ | .nilFunc => true
  | _ => false
def cellsOf (v : Value) : List Value := v.cells.toList

/-- A part of a row of cells, read as a value of the type. -/
def partOf (P : Program) (t : TypeId) (cs : List Value) (off : Nat) : Option Value :=
  match tagg P t with
  | some true => (tsz P t).bind fun n => if off + n ≤ cs.length then some (.agg ((cs.drop off).take n).toArray) else none
  | some false => cs[off]?
  | none => none
def splice (cs : List Value) (off : Nat) (xs : List Value) : List Value := cs.take off ++ xs ++ cs.drop (off + xs.length)
def loadA (P : Program) (t : TypeId) (p : Value) (H : Heap) : Option Value :=
  match p with
  | .pointer (some ⟨id, off, none⟩) => (readRow H id).bind fun r => partOf P t r.cells off
  | _ => none
def storeA (P : Program) (t : TypeId) (p x : Value) (H : Heap) : Option Heap :=
  match p with
  | .pointer (some ⟨id, off, none⟩) =>
    (readRow H id).bind fun r =>
      if r.own = true ∧ some (cellsOf x).length = tsz P t ∧ off + (cellsOf x).length ≤ r.cells.length ∧ (cellsOf x).all scalar = true then
        some (H.set id (some { r with cells := splice r.cells off (cellsOf x) }))
      else none
  | _ => none

def cmpA (op : BinOp) (x y : Int) : Option Value :=
  match op with
  | .eql => some (.bool (x == y))
  | .neq => some (.bool (x != y))
  | .lss => some (.bool (decide (x < y)))
  | .leq => some (.bool (decide (x ≤ y)))
  | .gtr => some (.bool (decide (x > y)))
  | .geq => some (.bool (decide (x ≥ y)))
  | _ => none
def intA (op : BinOp) (k : IntKind) (x y : Int) : Option Value :=
  match op with
  | .add => some (.int k (k.wrap (x + y)))
  | .sub => some (.int k (k.wrap (x - y)))
  | .mul => some (.int k (k.wrap (x * y)))
  | .quo => if y = 0 then none else some (.int k (k.wrap (x.tdiv y)))
  | .rem => if y = 0 then none else some (.int k (x.tmod y))
  | .and => some (.int k (k.wrap (BitVec.ofInt k.bits x &&& BitVec.ofInt k.bits y).toNat))
  | .or => some (.int k (k.wrap (BitVec.ofInt k.bits x ||| BitVec.ofInt k.bits y).toNat))
  | .xor => some (.int k (k.wrap (BitVec.ofInt k.bits x ^^^ BitVec.ofInt k.bits y).toNat))
  | .shl | .shr | .andNot => none
  | op => cmpA op x y
def strA (op : BinOp) (x y : ByteArray) : Option Value :=
  match op with
  | .add => if x.size + y.size ≤ 4611686018427387904 then some (.string (x ++ y)) else none
  | .eql => some (.bool (decide (x = y)))
  | .neq => some (.bool (!decide (x = y)))
  | .lss => some (.bool (Op.bytesLess x.data.toList y.data.toList))
  | .leq => some (.bool (Op.bytesLess x.data.toList y.data.toList || decide (x = y)))
  | .gtr => some (.bool (!(Op.bytesLess x.data.toList y.data.toList || decide (x = y))))
  | .geq => some (.bool (!Op.bytesLess x.data.toList y.data.toList))
  | _ => none
/-- Equal cell by cell: whole numbers, bools and strings alone. -/
def eqCell : Value → Value → Option Bool
  | .int k a, .int k' b => if k = k' then some (a == b) else none
  | .bool a, .bool b => some (a == b)
  | .string a, .string b => some (a == b)
  | _, _ => none
def eqCells : List Value → List Value → Option Bool
  | [], [] => some true
  | x :: xs, y :: ys => (eqCell x y).bind fun a => (eqCells xs ys).map (a && ·)
  | _, _ => none
/-- A struct type of one-cell fields, one behind the other, each a whole number, a bool or a string. -/
def plainFields (P : Program) : List Field → Nat → Bool
  | [], _ => true
  | f :: fs, i => f.name != "_" && f.offset == i && (match P.underlying f.type with | some (.int _) => true | some .bool => true | some .string => true | _ => false) && plainFields P fs (i + 1)
def plainStruct (P : Program) (t : TypeId) : Bool :=
  !P.stoodInHeld t && !P.eqGuardType P.depth t &&
  match P.underlying t with
  | some (.struct fs) => plainFields P fs.toList 0
  | _ => false
/-- The kind of each cell fits the field's type. -/
def fitsFields (P : Program) : List Field → List Value → Bool
  | [], [] => true
  | f :: fs, v :: vs => (match P.underlying f.type, v with | some (.int k), .int k' _ => k == k' | some .bool, .bool _ => true | some .string, .string _ => true | _, _ => false) && fitsFields P fs vs
  | _, _ => false
def binA (P : Program) (op : BinOp) (t : TypeId) (x y : Value) : Option Value :=
  match x, y with
  | .int k a, .int k' b => if k = k' then intA op k a b else none
  | .string a, .string b => strA op a b
  | .bool a, .bool b => if tbool P t then (match op with | .eql => some (.bool (a == b)) | .neq => some (.bool (!(a == b))) | _ => none) else none
  | .agg xs, .agg ys =>
    match P.underlying t with
    | some (.struct fs) =>
      if plainStruct P t && fitsFields P fs.toList xs.toList && fitsFields P fs.toList ys.toList then
        (match op with
          | .eql => (eqCells xs.toList ys.toList).map .bool
          | .neq => (eqCells xs.toList ys.toList).map fun b => .bool !b
          | _ => none)
      else none
    | _ => none
  | _, _ => none
def unA (op : UnOp) (x : Value) : Option Value :=
  match op, x with
  | .neg, .int k n => some (.int k (k.wrap (0 - n)))
  | .not, .bool b => some (.bool !b)
  | _, _ => none

def byteOfCell : Value → Option UInt8
  | .int .u8 n => some (UInt8.ofNat n.toNat)
  | _ => none
def bytesOfCells : List Value → Option (List UInt8)
  | [] => some []
  | v :: vs => (byteOfCell v).bind fun b => (bytesOfCells vs).map (b :: ·)
def convA (P : Program) (src dst : TypeId) (x : Value) (H : Heap) : Option Value :=
  match x with
  | .int _ n => (tkind P src).bind fun _ => (tkind P dst).map fun k => .int k (k.wrap n)
  | .string s => if tstr P dst && tstr P src then some (.string s) else none
  | .slice (some ⟨id, off, none⟩) len 0 =>
    if (telem P src).bind (tkind P) = some .u8 ∧ tstr P dst = true then
      if len = 0 then some (.string .empty) else
      (readRow H id).bind fun r => if off + len ≤ r.cells.length then (bytesOfCells ((r.cells.drop off).take len)).map fun l => .string ⟨l.toArray⟩ else none
    else none
  | _ => none

def boundOf : Option Value → Nat → Nat → Option Nat
  | some (.int _ i), _, hi => if 0 ≤ i ∧ i ≤ hi then some i.toNat else none
  | none, d, _ => some d
  | _, _, _ => none
def sliceA (P : Program) (t : TypeId) (x : Value) (lo hi mx : Option Value) : Option Value :=
  match mx with
  | some _ => none
  | none =>
    match x with
    | .string s => if tstr P t then (boundOf hi s.size s.size).bind fun h => (boundOf lo 0 h).map fun l => .string (s.extract l h) else none
    | .slice (some ⟨id, off, none⟩) len 0 =>
      (telem P t).bind fun e => (tsz P e).bind fun n => (boundOf hi len len).bind fun h => (boundOf lo 0 h).map fun l => sl id (off + l * n) (h - l)
    | _ => none
def fieldAddrA (P : Program) (s : TypeId) (x : Value) (f : Nat) : Option Value :=
  match x with
  | .pointer (some ⟨id, off, none⟩) => (tfield P s f).bind fun (o, t) => (tsz P t).bind fun n => if n = 0 then none else some (pt id (off + o))
  | _ => none
def fieldA (P : Program) (t : TypeId) (x : Value) (f : Nat) : Option Value :=
  match x with
  | .agg cs => (tfield P t f).bind fun (o, u) => partOf P u cs.toList o
  | _ => none
def indexAddrA (P : Program) (t : TypeId) (x i : Value) : Option Value :=
  match x, i with
  | .slice (some ⟨id, off, none⟩) len 0, .int _ i => (telem P t).bind fun e => (tsz P e).bind fun n => if 0 ≤ i ∧ i < len then some (pt id (off + i.toNat * n)) else none
  | .pointer (some ⟨id, off, none⟩), .int _ i => (tarr P t).bind fun (len, e) => (tsz P e).bind fun n => if 0 ≤ i ∧ i < len then some (pt id (off + i.toNat * n)) else none
  | _, _ => none
def indexA (P : Program) (t : TypeId) (x i : Value) : Option Value :=
  match x, i with
  | .string s, .int _ i => if tstr P t then (if 0 ≤ i then (s[i.toNat]?).map fun b => .int .u8 b.toNat else none) else none
  | .agg cs, .int _ i => (tarr P t).bind fun (len, e) => (tsz P e).bind fun n => if 0 ≤ i ∧ i < len then partOf P e cs.toList (i.toNat * n) else none
  | _, _ => none

/-- The parts of a struct, laid over its zero value. -/
def fillA (place : Nat → Option (Nat × Nat)) (cells : List Value) : List (Nat × Value) → Option (List Value)
  | [] => some cells
  | (i, v) :: rest =>
    (place i).bind fun (off, size) =>
      if (cellsOf v).length = size ∧ off + (cellsOf v).length ≤ cells.length ∧ (cellsOf v).all scalar = true then fillA place (splice cells off (cellsOf v)) rest else none
/-- Where each field lies, and its cells. -/
def tplaces (P : Program) (t : TypeId) : Option (List (Nat × Nat)) :=
  match P.underlying t with
  | some (.struct fs) => go fs.toList
  | _ => none
where
  go : List Field → Option (List (Nat × Nat))
    | [] => some []
    | f :: fs => (tsz P f.type).bind fun n => (go fs).map ((f.offset, n) :: ·)
def buildA (P : Program) (t : TypeId) (parts : List (Nat × Value)) : Option Value :=
  (tzero P t).bind fun z => (tplaces P t).bind fun ps =>
    (fillA (ps[·]?) (cellsOf (nv z)) parts).map fun cs => .agg cs.toArray
def zerosOf (n : Nat) (z : List Value) : List Value := (List.replicate n z).flatten
def zeroCellsT (P : Program) (e : TypeId) : Option (List Value) :=
  (tzero P e).bind fun z => (tsz P e).bind fun n => if (cellsOf (nv z)).length = n ∧ 0 < n ∧ (cellsOf (nv z)).all scalar = true then some (cellsOf (nv z)) else none
def newA (H : Heap) (cells : List Value) (esz : Nat) : Heap := H ++ [some ⟨cells, esz, true⟩]
def buildSliceA (P : Program) (t : TypeId) (len : Nat) (parts : List (Nat × Value)) (H : Heap) : Option (Value × Heap) :=
  (telem P t).bind fun e => (tsz P e).bind fun n => (zeroCellsT P e).bind fun z =>
    if len * n ≤ 16777216 then
      (fillA (fun i => some (i * n, n)) (zerosOf len z) parts).map fun cs => (sl H.length 0 len, newA H cs n)
    else none
def makeSliceA (P : Program) (t : TypeId) (l c : Value) (H : Heap) : Option (Value × Heap) :=
  match l, c with
  | .int _ l, .int _ c =>
    (telem P t).bind fun e => (tsz P e).bind fun n => (tby P e).bind fun b => (zeroCellsT P e).bind fun z =>
      if l = c ∧ 0 ≤ l ∧ l.toNat * (b + 1) ≤ 1099511627776 then some (sl H.length 0 l.toNat, newA H (zerosOf l.toNat z) n) else none
  | _, _ => none
/-- The cells of a slice's first n elements. -/
def cellsAt (H : Heap) (x : Value) (n size : Nat) : Option (List Value) :=
  match x with
  | .slice (some ⟨id, off, none⟩) len 0 =>
    if n ≤ len then
      if n = 0 then some [] else
      (readRow H id).bind fun r => if off + n * size ≤ r.cells.length then some ((r.cells.drop off).take (n * size)) else none
    else none
  | _ => none
def appendA (P : Program) (t : TypeId) (s x : Value) (H : Heap) : Option (Value × Heap) :=
  match s, x with
  | .slice (some ⟨id, off, none⟩) len 0, .slice (some _) k 0 =>
    (telem P t).bind fun e => (tsz P e).bind fun n => (tby P e).bind fun b => (zeroCellsT P e).bind fun _ =>
      if k = 0 then some (s, H) else
      if (len + k) * (b + 1) ≤ 1099511627776 ∧ b ≤ 4096 then
        (cellsAt H s len n).bind fun old => (cellsAt H x k n).bind fun new =>
          if new.all scalar = false then none else
          if id = 0 then some (sl H.length 0 (len + k), newA H (old ++ new) n)
          else if off = 0 then
            (readRow H id).bind fun r => if r.esz = n ∧ r.own = true then some (sl H.length 0 (len + k), newA (H.set id none) (old ++ new) n) else none
          else none
      else none
  | _, _ => none
def copyA (P : Program) (t : TypeId) (d s : Value) (H : Heap) : Option (Value × Heap) :=
  match d, s with
  | .slice (some ⟨id, off, none⟩) dl 0, .slice (some _) l 0 =>
    (telem P t).bind fun e => (tsz P e).bind fun n => (cellsAt H s (Nat.min l dl) n).bind fun cs =>
      if Nat.min l dl = 0 then some (.int .i64 0, H) else
      (readRow H id).bind fun r => if r.own = true ∧ off + cs.length ≤ r.cells.length ∧ cs.all scalar = true then
        some (.int .i64 (Nat.min l dl), H.set id (some { r with cells := splice r.cells off cs })) else none
  | _, _ => none
def lenA (P : Program) (t : TypeId) (x : Value) : Option Value :=
  match x with
  | .string s => if tstr P t then some (.int .i64 s.size) else none
  | .slice (some _) n 0 => (telem P t).map fun _ => .int .i64 n
  | _ => none
def min2A : Value → Value → Option Value
  | .int k x, .int _ y => some (.int k (if y < x then y else x))
  | _, _ => none
def max2A : Value → Value → Option Value
  | .int k x, .int _ y => some (.int k (if y > x then y else x))
  | _, _ => none

def builtinA (P : Program) (b : Builtin) (ts : List TypeId) (args : List Value) (H : Heap) : Option (Value × Heap) :=
  match b, ts, args with
  | .len, [t], [x] => (lenA P t x).map (·, H)
  | .append, [t, u], [s, x] => (telem P u).bind fun _ => appendA P t s x H
  | .copy, [t, _], [d, s] => copyA P t d s H
  | .min, _, [x, y] => (min2A x y).map (·, H)
  | .max, _, [x, y] => (max2A x y).map (·, H)
  | _, _, _ => none
def makeFuncA (fn : Fn) (first : List Operand) (caps : List Value) : Option Value :=
  match fn, first with
  | .func f, [] => if caps.all scalar = true then some (.func (.func f) #[] caps.toArray) else none
  | _, _ => none
/-- An operation that calls no function: what it yields, and the heap behind it. -/
def primA (P : Program) (ρ : Operand → Value) (o : Op) (H : Heap) : Option (Value × Heap) :=
  match o with
  | .move x | .assign x => some (ρ x, H)
  | .pick c a b => match ρ c with
    | .bool t => some (if t then ρ a else ρ b, H)
    | _ => none
  | .alloc t => (tzero P t).bind fun z => if (cellsOf (nv z)).all scalar = true then some (pt H.length 0, newA H (cellsOf (nv z)) 0) else none
  | .box _ x => if (cellsOf (ρ x)).all scalar = true then some (pt H.length 0, newA H (cellsOf (ρ x)) 0) else none
  | .build t ps => (buildA P t (ps.toList.map fun p => (p.1, ρ p.2))).map (·, H)
  | .buildSlice t n ps => buildSliceA P t n (ps.toList.map fun p => (p.1, ρ p.2)) H
  | .load t a => (loadA P t (ρ a) H).map (·, H)
  | .store t a x => (storeA P t (ρ a) (ρ x) H).map (undef, ·)
  | .nilCheck x => match ρ x with
    | .pointer (some a) => some (.pointer (some a), H)
    | _ => none
  | .binOp op t x y _ => (binA P op t (ρ x) (ρ y)).map (·, H)
  | .unOp op _ x => (unA op (ρ x)).map (·, H)
  | .convert s d x => (convA P s d (ρ x) H).map (·, H)
  | .makeFunc fn first captured => (makeFuncA fn first.toList (captured.toList.map ρ)).map (·, H)
  | .makeSlice t l c => makeSliceA P t (ρ l) (ρ c) H
  | .slice t x lo hi mx => (sliceA P t (ρ x) (lo.map ρ) (hi.map ρ) (mx.map ρ)).map (·, H)
  | .fieldAddr s x f => (fieldAddrA P s (ρ x) f).map (·, H)
  | .field t x f => (fieldA P t (ρ x) f).map (·, H)
  | .indexAddr t x i => (indexAddrA P t (ρ x) (ρ i)).map (·, H)
  | .index t x i => (indexA P t (ρ x) (ρ i)).map (·, H)
  | .extract t i => match ρ t with
    | .tuple vs => (vs[i]?).map (·, H)
    | _ => none
  | .call { callee := .builtin b, args, argTypes } => builtinA P b argTypes.toList (args.toList.map ρ) H
  | _ => none
/-- The function that a call goes to, and what it is handed. -/
def calleeA (ρ : Operand → Value) (o : Op) : Option (FuncId × List Value) :=
  match o with
  | .call { callee := .value f, args, .. } => match ρ f with
    | .func (.func g) first caps => if first.isEmpty then some (g, args.toList.map ρ ++ caps.toList) else none
    | _ => none
  | _ => none

inductive Ex where
  | normal
  | exit (id : Nat)
  | ret
  deriving DecidableEq
def Ex.out (id : Nat) : Ex → Ex
  | .exit i => if i = id then .normal else .exit i
  | e => e

/-- One operation of a region as it went: the frame and the heap ahead of it, whether its guard let it run, what it yielded, the heap behind it. -/
structure Step where
  o : Oper
  fr : Fr
  H : Heap
  ran : Bool
  v : Value
  H' : Heap

/-- Does an operation's guard let it run? -/
def guardA (all : Array Oper) (fr : Fr) (o : Oper) : Option Bool :=
  match o.guard with
  | none => some true
  | some (j, want) => match (all[j]?).bind (·.dst) with
    | some t => match fr t with
      | .bool b => some (b == want)
      | .tuple vs => if vs.isEmpty then some false else none
      | _ => none
    | none => none

def resultsA (P : Program) (rs : List ResultVar) (fr : Fr) (H : Heap) : Option (List Value) :=
  match rs with
  | [] => some []
  | .tmp t :: rs => (resultsA P rs fr H).map (fr t :: ·)
  | .cell a t :: rs => (loadA P t (fr a) H).bind fun v => (resultsA P rs fr H).map (v :: ·)
/-- Many results lie in one tuple: none of them is a tuple or a function itself. -/
def flat : Value → Bool
  | .tuple _ => false
  | .func _ _ _ => false
  | _ => true
def flats : List Value → Bool
  | [_] => true
  | vs => vs.all flat
def tupled : List Value → Value
  | [v] => v
  | vs => .tuple vs.toArray
end Go.Proofs.Ytmbikamebhoelaa.Ai
