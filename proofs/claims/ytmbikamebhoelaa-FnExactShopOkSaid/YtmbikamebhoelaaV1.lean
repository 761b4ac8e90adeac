/- Values as data: each operation. No condition. -/
import Derived.Test.YtmbikamebhoelaaV0
set_option linter.unusedVariables false
set_option linter.unusedSimpArgs false
namespace Go.Proofs.Ytmbikamebhoelaa.Ai.Av
open Go

def dof1 : Value → D
  | .bool b => .bool b
  | .int k n => .int k n
  | .string s => .str s
  | .slice none _ _ => .nil
  | .nilFunc => .nilf
  | _ => .any
def dof : Value → D
  | .agg cs => .agg (cs.toList.map dof1)
  | v => dof1 v
def FrV.put (fr : FrV) (dst : Option Tmp) (v : D) : FrV :=
  match dst with
  | some d => fun t => if t = d then v else fr t
  | none => fr
def evV (fr : FrV) : Operand → D
  | .tmp t => fr t
  | .const v => dof v
  | .global _ => .any
  | .func f => .fn f []
def undefV : D := .tup []
def initV (args : List D) : FrV := fun t => args.getD t .any
def dscalar : D → Bool
  | .bool _ | .int _ _ | .str _ | .nil | .sl _ _ | .ref _ _ _ | .ptr _ _ | .vp _ | .nilf => true
  | _ => false
def dcells : D → List D
  | .agg cs => cs
  | d => [d]
def partV (P : Program) (t : TypeId) (cs : List D) (off : Nat) : Option D :=
  match tagg P t with
  | some true => (tsz P t).bind fun n => if off + n ≤ cs.length then some (.agg ((cs.drop off).take n)) else none
  | some false => cs[off]?
  | none => none
def spliceV (cs : List D) (off : Nat) (xs : List D) : List D := cs.take off ++ xs ++ cs.drop (off + xs.length)
def loadV (P : Program) (t : TypeId) (p : D) (hv : HV) : Option D :=
  match p with
  | .ptr id off => (readV hv id).bind fun r => partV P t r.cells off
  | .vp cs => partV P t cs 0
  | _ => none
def setV (hv : HV) (id : Nat) (cells : List D) (esz : Nat) : HV := hv.set id (some ⟨cells, esz⟩)
def killV (hv : HV) (id : Nat) : HV := hv.set id none
def newV (hv : HV) (cells : List D) (esz : Nat) : HV := hv ++ [some ⟨cells, esz⟩]
def storeV (P : Program) (t : TypeId) (p x : D) (hv : HV) : Option HV :=
  match p with
  | .ptr id off =>
    (readV hv id).bind fun r =>
      if some (dcells x).length = tsz P t ∧ off + (dcells x).length ≤ r.cells.length ∧ (dcells x).all dscalar = true then
        some (setV hv id (spliceV r.cells off (dcells x)) r.esz)
      else none
  | _ => none
def dval : D → Value
  | .int k n => .int k n
  | .bool b => .bool b
  | .str s => .string s
  | _ => .nilFunc
def dflat1 : D → Bool
  | .int _ _ | .bool _ | .str _ => true
  | _ => false
/-- Structs of plain cells. -/
def aggB (P : Program) (op : BinOp) (t : TypeId) (xs ys : List D) : Option D := if xs.all dflat1 && ys.all dflat1 then (binA P op t (.agg (xs.map dval).toArray) (.agg (ys.map dval).toArray)).map dof else none
def binV (P : Program) (op : BinOp) (t : TypeId) (x y : D) : Option D :=
  match x, y with
  | .int k a, .int k' b => if k = k' then (intA op k a b).map dof else none
  | .str a, .str b => (strA op a b).map dof
  | .bool a, .bool b => if tbool P t then (match op with | .eql => some (.bool (a == b)) | .neq => some (.bool (!(a == b))) | _ => none) else none
  | .agg xs, .agg ys => aggB P op t xs ys
  | _, _ => none
def unV (op : UnOp) (x : D) : Option D :=
  match op, x with
  | .neg, .int k n => some (.int k (k.wrap (0 - n)))
  | .not, .bool b => some (.bool !b)
  | _, _ => none
def byteOfD : D → Option UInt8
  | .int .u8 n => some (UInt8.ofNat n.toNat)
  | _ => none
def bytesOfD : List D → Option (List UInt8)
  | [] => some []
  | v :: vs => (byteOfD v).bind fun b => (bytesOfD vs).map (b :: ·)
def convV (P : Program) (src dst : TypeId) (x : D) (hv : HV) : Option D :=
  match x with
  | .int _ n => (tkind P src).bind fun _ => (tkind P dst).map fun k => .int k (k.wrap n)
  | .str s => if tstr P dst && tstr P src then some (.str s) else none
  | .ref id off len =>
    if (telem P src).bind (tkind P) = some .u8 ∧ tstr P dst = true then
      if len = 0 then some (.str .empty) else
      (readV hv id).bind fun r => if off + len ≤ r.cells.length then (bytesOfD ((r.cells.drop off).take len)).map fun l => .str ⟨l.toArray⟩ else none
    else none
  | _ => none
def boundV : Option D → Nat → Nat → Option Nat
  | some (.int _ i), _, hi => if 0 ≤ i ∧ i ≤ hi then some i.toNat else none
  | none, d, _ => some d
  | _, _, _ => none
def sliceV (P : Program) (t : TypeId) (x : D) (lo hi mx : Option D) : Option D :=
  match mx with
  | some _ => none
  | none =>
    match x with
    | .str s => if tstr P t then (boundV hi s.size s.size).bind fun h => (boundV lo 0 h).map fun l => .str (s.extract l h) else none
    | .nil => (telem P t).bind fun e => (tsz P e).bind fun n => (boundV hi 0 0).bind fun h => (boundV lo 0 h).map fun l => .nil
    | .sl w rows => (telem P t).bind fun e => (tsz P e).bind fun n => if n = w then (boundV hi rows.length rows.length).bind fun h => (boundV lo 0 h).map fun l => .sl w ((rows.take h).drop l) else none
    | .ref id off len => (telem P t).bind fun e => (tsz P e).bind fun n => (boundV hi len len).bind fun h => (boundV lo 0 h).map fun l => .ref id (off + l * n) (h - l)
    | _ => none
def fieldAddrV (P : Program) (s : TypeId) (x : D) (f : Nat) : Option D :=
  match x with
  | .ptr id off => (tfield P s f).bind fun (o, t) => (tsz P t).bind fun n => if n = 0 then none else some (.ptr id (off + o))
  | .vp cs => (tfield P s f).bind fun (o, t) => (tsz P t).bind fun n => if n = 0 ∨ cs.length ≤ o then none else some (.vp (cs.drop o))
  | _ => none
def fieldV (P : Program) (t : TypeId) (x : D) (f : Nat) : Option D :=
  match x with
  | .agg cs => (tfield P t f).bind fun (o, u) => partV P u cs o
  | _ => none
def indexAddrV (P : Program) (t : TypeId) (x i : D) : Option D :=
  match x, i with
  | .sl w rows, .int _ i => (telem P t).bind fun e => (tsz P e).bind fun n => if n = w ∧ 0 < n ∧ 0 ≤ i then (rows[i.toNat]?).map .vp else none
  | .ref id off len, .int _ i => (telem P t).bind fun e => (tsz P e).bind fun n => if 0 ≤ i ∧ i < len then some (.ptr id (off + i.toNat * n)) else none
  | .ptr id off, .int _ i => (tarr P t).bind fun (len, e) => (tsz P e).bind fun n => if 0 ≤ i ∧ i < len then some (.ptr id (off + i.toNat * n)) else none
  | _, _ => none
def indexV (P : Program) (t : TypeId) (x i : D) : Option D :=
  match x, i with
  | .str s, .int _ i => if tstr P t then (if 0 ≤ i then (s[i.toNat]?).map fun b => .int .u8 b.toNat else none) else none
  | .agg cs, .int _ i => (tarr P t).bind fun (len, e) => (tsz P e).bind fun n => if 0 ≤ i ∧ i < len then partV P e cs (i.toNat * n) else none
  | _, _ => none
def fillV (place : Nat → Option (Nat × Nat)) (cells : List D) : List (Nat × D) → Option (List D)
  | [] => some cells
  | (i, v) :: rest =>
    (place i).bind fun (off, size) =>
      if (dcells v).length = size ∧ off + (dcells v).length ≤ cells.length ∧ (dcells v).all dscalar = true then fillV place (spliceV cells off (dcells v)) rest else none
def buildV (P : Program) (t : TypeId) (parts : List (Nat × D)) : Option D :=
  (tzero P t).bind fun z => (tplaces P t).bind fun ps =>
    (fillV (ps[·]?) (dcells (dof z)) parts).map fun cs => .agg cs
def zeroCellsV (P : Program) (e : TypeId) : Option (List D) :=
  (tzero P e).bind fun z => (tsz P e).bind fun n => if (dcells (dof z)).length = n ∧ 0 < n ∧ (dcells (dof z)).all dscalar = true then some (dcells (dof z)) else none
def zerosV (n : Nat) (z : List D) : List D := (List.replicate n z).flatten
def buildSliceV (P : Program) (t : TypeId) (len : Nat) (parts : List (Nat × D)) (hv : HV) : Option (D × HV) :=
  (telem P t).bind fun e => (tsz P e).bind fun n => (zeroCellsV P e).bind fun z =>
    if len * n ≤ 16777216 then
      (fillV (fun i => some (i * n, n)) (zerosV len z) parts).map fun cs => (.ref hv.length 0 len, newV hv cs n)
    else none
def makeSliceV (P : Program) (t : TypeId) (l c : D) (hv : HV) : Option (D × HV) :=
  match l, c with
  | .int _ l, .int _ c =>
    (telem P t).bind fun e => (tsz P e).bind fun n => (tby P e).bind fun b => (zeroCellsV P e).bind fun z =>
      if l = c ∧ 0 ≤ l ∧ l.toNat * (b + 1) ≤ 1099511627776 then some (.ref hv.length 0 l.toNat, newV hv (zerosV l.toNat z) n) else none
  | _, _ => none
def dlen : D → Option Nat
  | .nil => some 0
  | .sl _ rows => some rows.length
  | .ref _ _ len => some len
  | _ => none
def cellsAtV (hv : HV) (x : D) (n size : Nat) : Option (List D) :=
  match x with
  | .nil => if n = 0 then some [] else none
  | .sl w rows => if n ≤ rows.length then (if n = 0 then some [] else if w = size ∧ 0 < size then some (rows.take n).flatten else none) else none
  | .ref id off len =>
    if n ≤ len then
      if n = 0 then some [] else
      (readV hv id).bind fun r => if off + n * size ≤ r.cells.length then some ((r.cells.drop off).take (n * size)) else none
    else none
  | _ => none
def appendV (P : Program) (t : TypeId) (s x : D) (hv : HV) : Option (D × HV) :=
  (dlen s).bind fun len => (dlen x).bind fun k =>
    (telem P t).bind fun e => (tsz P e).bind fun n => (tby P e).bind fun b => (zeroCellsV P e).bind fun _ =>
      if k = 0 then some (s, hv) else
      if (len + k) * (b + 1) ≤ 1099511627776 ∧ b ≤ 4096 then
        (cellsAtV hv s len n).bind fun old => (cellsAtV hv x k n).bind fun new =>
          if new.all dscalar = false then none else
          match s with
          | .nil => some (.ref hv.length 0 (len + k), newV hv (old ++ new) n)
          | .ref id 0 _ => (readV hv id).bind fun r => if r.esz = n then some (.ref hv.length 0 (len + k), newV (killV hv id) (old ++ new) n) else none
          | _ => none
      else none
def copyV (P : Program) (t : TypeId) (d s : D) (hv : HV) : Option (D × HV) :=
  match d with
  | .ref id off dl =>
    (dlen s).bind fun l =>
    (telem P t).bind fun e => (tsz P e).bind fun n => (cellsAtV hv s (Nat.min l dl) n).bind fun cs =>
      if Nat.min l dl = 0 then some (.int .i64 0, hv) else
      (readV hv id).bind fun r => if off + cs.length ≤ r.cells.length ∧ cs.all dscalar = true then
        some (.int .i64 (Nat.min l dl), setV hv id (spliceV r.cells off cs) r.esz) else none
  | _ => none
def lenV (P : Program) (t : TypeId) (x : D) : Option D :=
  match x with
  | .str s => if tstr P t then some (.int .i64 s.size) else none
  | .nil => (telem P t).map fun _ => .int .i64 0
  | .sl _ rows => (telem P t).map fun _ => .int .i64 rows.length
  | .ref _ _ n => (telem P t).map fun _ => .int .i64 n
  | _ => none
def min2V : D → D → Option D
  | .int k x, .int _ y => some (.int k (if y < x then y else x))
  | _, _ => none
def max2V : D → D → Option D
  | .int k x, .int _ y => some (.int k (if y > x then y else x))
  | _, _ => none
def builtinV (P : Program) (b : Builtin) (ts : List TypeId) (args : List D) (hv : HV) : Option (D × HV) :=
  match b, ts, args with
  | .len, [t], [x] => (lenV P t x).map (·, hv)
  | .append, [t, u], [s, x] => (telem P u).bind fun _ => appendV P t s x hv
  | .copy, [t, _], [d, s] => copyV P t d s hv
  | .min, _, [x, y] => (min2V x y).map (·, hv)
  | .max, _, [x, y] => (max2V x y).map (·, hv)
  | _, _, _ => none
def makeFuncV (fn : Fn) (first : List Operand) (caps : List D) : Option D :=
  match fn, first with
  | .func f, [] => if caps.all dscalar = true then some (.fn f caps) else none
  | _, _ => none
def primV (P : Program) (ρ : Operand → D) (o : Op) (hv : HV) : Option (D × HV) :=
  match o with
  | .move x | .assign x => some (ρ x, hv)
  | .pick c a b => match ρ c with
    | .bool t => some (if t then ρ a else ρ b, hv)
    | _ => none
  | .alloc t => (tzero P t).bind fun z => if (dcells (dof z)).all dscalar = true then some (.ptr hv.length 0, newV hv (dcells (dof z)) 0) else none
  | .box _ x => if (dcells (ρ x)).all dscalar = true then some (.ptr hv.length 0, newV hv (dcells (ρ x)) 0) else none
  | .build t ps => (buildV P t (ps.toList.map fun p => (p.1, ρ p.2))).map (·, hv)
  | .buildSlice t n ps => buildSliceV P t n (ps.toList.map fun p => (p.1, ρ p.2)) hv
  | .load t a => (loadV P t (ρ a) hv).map (·, hv)
  | .store t a x => (storeV P t (ρ a) (ρ x) hv).map (undefV, ·)
  | .nilCheck x => match ρ x with
    | .ptr id off => some (.ptr id off, hv)
    | .vp cs => some (.vp cs, hv)
    | _ => none
  | .binOp op t x y _ => (binV P op t (ρ x) (ρ y)).map (·, hv)
  | .unOp op _ x => (unV op (ρ x)).map (·, hv)
  | .convert s d x => (convV P s d (ρ x) hv).map (·, hv)
  | .makeFunc fn first captured => (makeFuncV fn first.toList (captured.toList.map ρ)).map (·, hv)
  | .makeSlice t l c => makeSliceV P t (ρ l) (ρ c) hv
  | .slice t x lo hi mx => (sliceV P t (ρ x) (lo.map ρ) (hi.map ρ) (mx.map ρ)).map (·, hv)
  | .fieldAddr s x f => (fieldAddrV P s (ρ x) f).map (·, hv)
  | .field t x f => (fieldV P t (ρ x) f).map (·, hv)
  | .indexAddr t x i => (indexAddrV P t (ρ x) (ρ i)).map (·, hv)
  | .index t x i => (indexV P t (ρ x) (ρ i)).map (·, hv)
  | .extract t i => match ρ t with
    | .tup vs => (vs[i]?).map (·, hv)
    | _ => none
  | .call { callee := .builtin b, args, argTypes } => builtinV P b argTypes.toList (args.toList.map ρ) hv
  | _ => none
def calleeV (ρ : Operand → D) (o : Op) : Option (FuncId × List D) :=
  match o with
  | .call { callee := .value f, args, .. } => match ρ f with
    | .fn g caps => some (g, args.toList.map ρ ++ caps)
    | _ => none
  | _ => none
def dflat : D → Bool
  | .tup _ => false
  | .fn _ _ => false
  | .any => false
  | _ => true
def dflats : List D → Bool
  | [_] => true
  | ds => ds.all dflat
def tupledV : List D → D
  | [d] => d
  | ds => .tup ds
def resultsV (P : Program) (rs : List ResultVar) (fr : FrV) (hv : HV) : Option (List D) :=
  match rs with
  | [] => some []
  | .tmp t :: rs => (resultsV P rs fr hv).map (fr t :: ·)
  | .cell a t :: rs => (loadV P t (fr a) hv).bind fun v => (resultsV P rs fr hv).map (v :: ·)
def guardV (all : Array Oper) (fr : FrV) (o : Oper) : Option Bool :=
  match o.guard with
  | none => some true
  | some (j, want) => match (all[j]?).bind (·.dst) with
    | some t => match fr t with
      | .bool b => some (b == want)
      | .tup vs => if vs.isEmpty then some false else none
      | _ => none
    | none => none
end Go.Proofs.Ytmbikamebhoelaa.Ai.Av
