/- The program's data as plain Lean structures, and what its reference makes of them. No condition. -/
import GoSem.Op.String
set_option linter.unusedVariables false
namespace Go.Proofs.Ytmbikamebhoelaa.Ai.Av
open Go

structure Ent where
  name : ByteArray
  id : Int
  deriving DecidableEq, Inhabited
structure TObj where
  kind : Int
  ver : Int
  text : ByteArray
  kids : List Ent
  deriving DecidableEq, Inhabited
structure Tree where
  objs : List TObj
  deriving DecidableEq, Inhabited
structure TOp where
  kind : Int
  dir : Int
  name : ByteArray
  dir2 : Int
  name2 : ByteArray
  id : Int
  text : ByteArray
  deriving DecidableEq, Inhabited
structure Base where
  id : Int
  ver : Int
  deriving DecidableEq, Inhabited
structure Log where
  who : Int
  seq : Int
  bases : List Base
  list : List TOp
  deriving DecidableEq, Inhabited
structure Done where
  who : Int
  seq : Int
  code : Int
  deriving DecidableEq, Inhabited
structure Shop where
  tree : Tree
  dones : List Done
  deriving DecidableEq, Inhabited
structure Keep where
  who : Int
  seq : Int
  base : Tree
  waits : Bool
  sent : List TOp
  list : List TOp
  shelf : List (List TOp)
  deriving DecidableEq, Inhabited
structure Msg where
  kind : Int
  who : Int
  seq : Int
  log : Log
  code : Int
  tree : Tree
  deriving DecidableEq, Inhabited
structure Told where
  who : Int
  seq : Int
  code : Int
  deriving DecidableEq, Inhabited
structure TWorld where
  shop : Shop
  keeps : List Keep
  net : List Msg
  past : List Log
  told : List Told
  deriving DecidableEq, Inhabited
structure TEvent where
  kind : Int
  a : Int
  b : Int
  op : TOp
  deriving DecidableEq, Inhabited

def noText : ByteArray := ⟨#[]⟩
def noTree : Tree := ⟨[]⟩
def noObj : TObj := ⟨0, 0, noText, []⟩
def noOp : TOp := ⟨0, 0, noText, 0, noText, 0, noText⟩
def noLog : Log := ⟨0, 0, [], []⟩
def noShop : Shop := ⟨noTree, []⟩
def noKeep : Keep := ⟨0, 0, noTree, false, [], [], []⟩
def noMsg : Msg := ⟨0, 0, 0, noLog, 0, noTree⟩
def noWorld : TWorld := ⟨noShop, [], [], [], []⟩

/-! ### Chapter 1 -/
def bl (s : ByteArray) : List UInt8 := s.data.toList
def sless (a b : ByteArray) : Bool := Op.bytesLess (bl a) (bl b)
def inB (n lo hi : Int) : Bool := decide (lo ≤ n) && decide (n ≤ hi)
def letter (b : UInt8) : Bool := decide (97 ≤ b.toNat) && decide (b.toNat ≤ 122)
def digit (b : UInt8) : Bool := decide (48 ≤ b.toNat) && decide (b.toNat ≤ 57)
def treeWord (s : ByteArray) : Bool := (bl s).all letter && decide (1 ≤ s.size) && decide (s.size ≤ 4)
def treeBody (s : ByteArray) : Bool := (bl s).all (fun b => letter b || digit b) && decide (s.size ≤ 12)
/-- The entries of a directory, behind one of a name. -/
def kidsFrom (p : Option ByteArray) : List Ent → Bool
  | [] => true
  | k :: ks => treeWord k.name && inB k.id 1 31 && (match p with | none => true | some q => sless q k.name) && kidsFrom (some k.name) ks
def kidsOk (ks : List Ent) : Bool := kidsFrom none ks
def objOk (o : TObj) : Bool :=
  inB o.ver 0 1000000 &&
  (if o.kind = 0 then decide (o.text = noText) && o.kids.isEmpty
   else if o.kind = 1 then treeBody o.text && o.kids.isEmpty && decide (0 < o.ver)
   else if o.kind = 2 then decide (o.text = noText) && kidsOk o.kids && decide (0 < o.ver)
   else false)
def objAt (t : Tree) (i : Int) : TObj := t.objs.getD i.toNat noObj
/-- In how many entries something is. -/
def homes (t : Tree) (id : Int) : Nat := (t.objs.flatMap (·.kids)).countP (fun k => k.id == id)
def homeFrom (i : Nat) (id : Int) : List TObj → Int
  | [] => -1
  | o :: os => if o.kids.any (fun k => k.id == id) then i else homeFrom (i + 1) id os
def home (t : Tree) (id : Int) : Int := homeFrom 0 id t.objs
def topIn (t : Tree) : Nat → Int → Bool
  | 0, id => decide (id = 0)
  | n + 1, id => if 0 < id then topIn t n (home t id) else decide (id = 0)
def liveOk (t : Tree) (i : Nat) : Bool :=
  if (objAt t i).kind ≠ 0 then decide (homes t i = 1) && topIn t 32 i else decide (homes t i = 0)
def treeOk (t : Tree) : Bool :=
  decide (t.objs.length = 32) && decide ((objAt t 0).kind = 2) && t.objs.all objOk && (List.range 32).all (fun i => decide (i = 0) || liveOk t i)
def objLike (a b : TObj) : Bool := decide (a.kind = b.kind) && decide (a.text = b.text) && decide (a.kids = b.kids)
def likeAll : List TObj → List TObj → Bool
  | a :: s, b :: r => objLike a b && likeAll s r
  | [], [] => true
  | _, _ => false
def treeLike (a b : Tree) : Bool := likeAll a.objs b.objs
def treeSame (a b : Tree) : Bool := decide (a = b)
def findIn (name : ByteArray) : List Ent → Int
  | [] => -1
  | k :: ks => if k.name = name then k.id else findIn name ks
def find (t : Tree) (dir : Int) (name : ByteArray) : Int := findIn name (objAt t dir).kids
/-- Is the first one the second, or in it: so many steps up at most. -/
def underIn (t : Tree) (dir : Int) : Nat → Int → Bool
  | 0, _ => false
  | n + 1, id => if 0 ≤ id then (if id = dir then true else underIn t dir n (home t id)) else false
def under (t : Tree) (id dir : Int) : Bool := underIn t dir 33 id
def treeOpen : Tree := ⟨⟨2, 1, noText, []⟩ :: List.replicate 31 noObj⟩

/-! ### Chapter 2 -/
def opOk (op : TOp) : Bool :=
  inB op.id 1 31 &&
  (if op.kind = 1 ∨ op.kind = 2 ∨ op.kind = 3 then inB op.dir 0 31 && treeWord op.name && decide (op.dir2 = 0) && decide (op.name2 = noText) && decide (op.text = noText)
   else if op.kind = 4 then inB op.dir 0 31 && treeWord op.name && inB op.dir2 0 31 && treeWord op.name2 && decide (op.text = noText)
   else if op.kind = 5 then decide (op.dir = 0) && decide (op.name = noText) && decide (op.dir2 = 0) && decide (op.name2 = noText) && treeBody op.text
   else false)
def putNum (n : Int) : List Int → List Int
  | [] => [n]
  | x :: xs => if x < n then x :: putNum n xs else if x = n then x :: xs else n :: x :: xs
def opIds (op : TOp) : List Int :=
  if opOk op then
    let a := [op.id]
    let b := if op.kind ≠ 5 then putNum op.dir a else a
    if op.kind = 4 then putNum op.dir2 b else b
  else []

/-! ### Chapter 3 -/
def setObj (t : Tree) (i : Int) (o : TObj) : Tree := ⟨t.objs.set i.toNat o⟩
def turn (t : Tree) (i : Int) : Tree := setObj t i { objAt t i with ver := (objAt t i).ver + 1 }
def putEnt (e : Ent) : List Ent → List Ent
  | [] => [e]
  | k :: ks => if sless k.name e.name then k :: putEnt e ks else e :: k :: ks
def outEnt (name : ByteArray) (ks : List Ent) : List Ent := ks.filter (fun k => decide (k.name ≠ name))
def fresh (t : Tree) (id : Int) : Bool := decide ((objAt t id).kind = 0) && decide ((objAt t id).ver ≤ 0)
def isDir (t : Tree) (id : Int) : Bool := decide ((objAt t id).kind = 2)
def doNew (t : Tree) (op : TOp) : Tree × Int :=
  if !isDir t op.dir then (t, 1)
  else if 0 ≤ find t op.dir op.name then (t, 3)
  else if !fresh t op.id then (t, 7)
  else
    let t1 := setObj t op.id ⟨if op.kind = 2 then 2 else 1, 1, noText, []⟩
    let t2 := setObj t1 op.dir { objAt t1 op.dir with kids := putEnt ⟨op.name, op.id⟩ (objAt t1 op.dir).kids }
    (turn t2 op.dir, 0)
def doGone (t : Tree) (op : TOp) : Tree × Int :=
  if !isDir t op.dir then (t, 1)
  else if find t op.dir op.name ≠ op.id then (t, 2)
  else if 0 < (objAt t op.id).kids.length then (t, 4)
  else
    let t1 := setObj t op.dir { objAt t op.dir with kids := outEnt op.name (objAt t op.dir).kids }
    let t2 := setObj t1 op.id ⟨0, (objAt t1 op.id).ver, noText, []⟩
    (turn (turn t2 op.id) op.dir, 0)
def doMove (t : Tree) (op : TOp) : Tree × Int :=
  if !isDir t op.dir || !isDir t op.dir2 then (t, 1)
  else if find t op.dir op.name ≠ op.id then (t, 2)
  else if 0 ≤ find t op.dir2 op.name2 then (t, 3)
  else if under t op.dir2 op.id then (t, 5)
  else
    let t1 := setObj t op.dir { objAt t op.dir with kids := outEnt op.name (objAt t op.dir).kids }
    let t2 := setObj t1 op.dir2 { objAt t1 op.dir2 with kids := putEnt ⟨op.name2, op.id⟩ (objAt t1 op.dir2).kids }
    let t3 := turn t2 op.dir
    (if op.dir2 ≠ op.dir then turn t3 op.dir2 else t3, 0)
def doText (t : Tree) (op : TOp) : Tree × Int :=
  if (objAt t op.id).kind ≠ 1 then (t, 6)
  else (turn (setObj t op.id { objAt t op.id with text := op.text }) op.id, 0)
def worn (t : Tree) (op : TOp) : Bool := (opIds op).any (fun i => decide (1000000 ≤ (objAt t i).ver))
/-- An operation that is right, of a tree that is right. -/
def doOp (t : Tree) (op : TOp) : Tree × Int :=
  if worn t op then (t, 8)
  else if op.kind = 1 ∨ op.kind = 2 then doNew t op
  else if op.kind = 3 then doGone t op
  else if op.kind = 4 then doMove t op
  else doText t op
def actDo (t : Tree) (op : TOp) : Tree × Int :=
  if treeOk t then (if opOk op then doOp t op else (t, 8)) else (noTree, 8)
def forms (l : List TOp) : Bool := decide (l.length ≤ 60) && l.all opOk
def allFrom (t0 : Tree) (i : Nat) (t : Tree) : List TOp → Tree × Int × Int
  | [] => (t, 0, i)
  | op :: l => if (doOp t op).2 ≠ 0 then (t0, (doOp t op).2, i) else allFrom t0 (i + 1) (doOp t op).1 l
def allOps (t : Tree) (l : List TOp) : Tree × Int × Int := allFrom t 0 t l
def actAll (t : Tree) (l : List TOp) : Tree × Int × Int := if treeOk t && forms l then allOps t l else (noTree, 8, 0)

/-! ### Chapter 5 -/
def logIds (l : List TOp) : List Int := (l.take 60).foldl (fun out op => (opIds op).foldl (fun out n => putNum n out) out) []
def basesOf (t : Tree) (ids : List Int) : List Base := ids.map fun i => ⟨i, (objAt t i).ver⟩
def logMake (t : Tree) (who seq : Int) (l : List TOp) : Log := if treeOk t && forms l then ⟨who, seq, basesOf t (logIds l), l⟩ else noLog
def basesOk : List Int → List Base → Bool
  | i :: is, b :: bs => decide (b.id = i) && inB b.ver 0 1000000 && basesOk is bs
  | [], [] => true
  | _, _ => false
def isClient (who : Int) : Bool := inB who 0 2
def logOk (l : Log) : Bool := isClient l.who && inB l.seq 1 1000 && forms l.list && basesOk (logIds l.list) l.bases
def logSame (a b : Log) : Bool := decide (a = b)
def fitsFrom (t : Tree) : List Base → Bool × Int
  | [] => (true, -1)
  | b :: bs => if (objAt t b.id).ver ≠ b.ver then (false, b.id) else fitsFrom t bs
def logFits (t : Tree) (l : Log) : Bool × Int := if treeOk t && logOk l then fitsFrom t l.bases else (false, -1)

/-! ### Chapter 6 -/
def shopOpen : Shop := ⟨treeOpen, []⟩
def donesFrom (p : Option Int) : List Done → Bool
  | [] => true
  | d :: ds => isClient d.who && inB d.seq 1 1000 && inB d.code 0 1 && (match p with | none => true | some q => decide (q < d.who)) && donesFrom (some d.who) ds
def shopOk (s : Shop) : Bool := treeOk s.tree && donesFrom none s.dones
def shopSame (a b : Shop) : Bool := decide (a = b)
def lastOf (who : Int) : List Done → Option Done
  | [] => none
  | d :: ds => if d.who = who then some d else lastOf who ds
/-- A client's last log kept: 'put' says whether it is there already. -/
def putDone (d : Done) (put : Bool) : List Done → List Done
  | [] => if put then [] else [d]
  | x :: xs =>
    (if !put && decide (d.who ≤ x.who) then [d] else []) ++ (if x.who ≠ d.who then [x] else []) ++ putDone d (put || decide (d.who ≤ x.who)) xs
def take (s : Shop) (l : Log) : Shop × Int × Bool :=
  match lastOf l.who s.dones with
  | some d =>
    if d.seq = l.seq then (s, d.code, false) else if l.seq < d.seq then (s, 2, false) else go s l
  | none => go s l
where
  go (s : Shop) (l : Log) : Shop × Int × Bool :=
    if (logFits s.tree l).1 && decide ((allOps s.tree l.list).2.1 = 0) then (⟨(allOps s.tree l.list).1, putDone ⟨l.who, l.seq, 0⟩ false s.dones⟩, 0, true)
    else (⟨s.tree, putDone ⟨l.who, l.seq, 1⟩ false s.dones⟩, 1, true)
def shopTake (s : Shop) (l : Log) : Shop × Int × Bool := if shopOk s then (if logOk l then take s l else (s, 3, false)) else (noShop, 3, false)
def shopWhy (s : Shop) (l : Log) : Int × Int × Int :=
  if shopOk s && logOk l then ((logFits s.tree l).2, if (allOps s.tree l.list).2.1 = 0 then -1 else (allOps s.tree l.list).2.2, (allOps s.tree l.list).2.1) else (-1, -1, 8)

/-! ### Chapter 7 -/
def msgOk (m : Msg) : Bool :=
  isClient m.who && inB m.seq 1 1000 &&
  (if m.kind = 1 then decide (m.log = noLog) && decide (m.code = 0) && decide (m.tree = noTree)
   else if m.kind = 2 then decide (m.log = noLog) && decide (m.code = 0) && treeOk m.tree
   else if m.kind = 3 then logOk m.log && decide (m.log.who = m.who) && decide (m.log.seq = m.seq) && decide (m.code = 0) && decide (m.tree = noTree)
   else if m.kind = 4 then decide (m.log = noLog) && inB m.code 0 2 && treeOk m.tree
   else false)
def serve (s : Shop) (m : Msg) : Shop × List Msg × Bool :=
  if m.kind = 1 then (s, [⟨2, m.who, m.seq, noLog, 0, s.tree⟩], false)
  else if m.kind = 3 then ((take s m.log).1, [⟨4, m.who, m.seq, noLog, (take s m.log).2.1, (take s m.log).1.tree⟩], (take s m.log).2.2 && decide ((take s m.log).2.1 = 0))
  else (s, [], false)
def msgServe (s : Shop) (m : Msg) : Shop × List Msg × Bool := if shopOk s then (if msgOk m then serve s m else (s, [], false)) else (noShop, [], false)

/-! ### Chapter 4 -/
def voided (op : TOp) (l : List TOp) : Bool := l.any fun x => decide (x.id = op.id) && (decide (x.kind = 5) || decide (x.kind = 3))
def slimTexts : List TOp → List TOp
  | [] => []
  | op :: l => if op.kind ≠ 5 ∨ voided op l = false then op :: slimTexts l else slimTexts l
/-- Where it goes again, from so many places on. -/
def goesFrom (id : Int) (i : Nat) : List TOp → Option Nat
  | [] => none
  | o :: l => if (o.kind ≠ 5 ∧ o.dir = id) ∨ (o.kind = 4 ∧ o.dir2 = id) then none else if o.kind = 3 ∧ o.id = id then some i else goesFrom id (i + 1) l
def goes (l : List TOp) (i : Nat) : Option Nat :=
  match l.drop i with
  | [] => none
  | o :: rest => if o.kind ≠ 1 ∧ o.kind ≠ 2 then none else goesFrom o.id (i + 1) rest
def without (id : Int) (a b : Nat) (l : List TOp) : List TOp := (l.zipIdx.filter fun (o, k) => decide (k < a) || decide (b < k) || decide (o.id ≠ id)).map (·.1)

/-! ### Chapter 8 -/
def keepOpen (who : Int) : Keep := if isClient who then ⟨who, 0, treeOpen, false, [], [], []⟩ else noKeep
def view (k : Keep) : Tree × Int :=
  if (allOps k.base k.sent).2.1 ≠ 0 then ((allOps k.base k.sent).1, (allOps k.base k.sent).2.1)
  else ((allOps (allOps k.base k.sent).1 k.list).1, (allOps (allOps k.base k.sent).1 k.list).2.1)
def keepOk (k : Keep) : Bool :=
  isClient k.who && inB k.seq 0 1000 && treeOk k.base && forms k.sent && forms k.list && decide (k.shelf.length ≤ 4) && decide (k.waits = !k.sent.isEmpty) && !(k.waits && decide (k.seq = 0)) &&
  k.shelf.all (fun l => decide (l.length ≤ 120) && l.all opOk) && decide ((view k).2 = 0)
def keepView (k : Keep) : Tree := if keepOk k then (view k).1 else noTree
def keepDo (k : Keep) (op : TOp) : Keep × Int :=
  if keepOk k then
    if 60 ≤ k.list.length ∨ opOk op = false then (k, 8)
    else if (actDo (keepView k) op).2 = 0 then ({ k with list := k.list ++ [op] }, 0) else (k, (actDo (keepView k) op).2)
  else (noKeep, 8)
def keepClear (k : Keep) (i : Int) : Keep :=
  if keepOk k then (if i < 0 ∨ (k.shelf.length : Int) ≤ i then k else { k with shelf := k.shelf.eraseIdx i.toNat }) else noKeep
end Go.Proofs.Ytmbikamebhoelaa.Ai.Av
