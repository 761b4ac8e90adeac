/- How code goes over a plain heap of rows, step by step; rules to show where it comes to. No condition. -/
import Derived.Test.YtmbikamebhoelaaAi0
set_option linter.unusedVariables false
set_option linter.unusedSimpArgs false
namespace Go.Proofs.Ytmbikamebhoelaa.Ai
open Go

/-! ### Regions that draw their order -/
/-- An operation that may write memory that was there. -/
def isW : Op → Bool
  | .call { callee := .builtin .append, .. } => true
  | .call { callee := .builtin .copy, .. } => true
  | .call { callee := .builtin _, .. } => false
  | .call _ => true
  | .store .. => true
  | _ => false
/-- An operation that makes memory. -/
def isNew : Op → Bool
  | .alloc _ | .box .. | .buildSlice .. | .makeSlice .. => true
  | _ => false
/-- An operation that reads memory, and writes none. -/
def isR : Op → Bool
  | .load .. => true
  | .convert .. => true
  | _ => false
/-- The row that it reads. -/
def readOf (ρ : Operand → Value) : Op → Option Nat
  | .load _ a => match ρ a with
    | .pointer (some a) => some a.block
    | _ => none
  | .convert _ _ x => match ρ x with
    | .slice (some a) _ _ => some a.block
    | _ => none
  | _ => none
def befs (ops : List Oper) : List Nat :=
  go ops []
where
  go : List Oper → List Nat → List Nat
    | [], acc => acc
    | o :: rest, acc => go rest (acc ++ [o.after.toList.foldl (fun s e => if Region.binds .any e then s ||| 2 ^ e.on ||| acc.getD e.on 0 else s) 0])
def isBefore (bs : List Nat) (i j : Nat) : Bool := (bs.getD j 0).testBit i
def looks (ops : List Oper) (o : Oper) : List Tmp :=
  (o.op.operands.toList.filterMap fun | .tmp t => some t | _ => none) ++
  (match o.guard with
   | some (g, _) => ((ops[g]?).bind (·.dst)).toList
   | none => [])
def touchTmps (ops : List Oper) (x y : Oper) : Bool :=
  (match x.dst with
   | some d => (looks ops y).contains d || y.dst == some d
   | none => false) ||
  (match y.dst with
   | some d => (looks ops x).contains d
   | none => false)
def drawOk (ops : List Oper) : Bool :=
  let bs := befs ops
  ops.zipIdx.all fun (oj, j) =>
    oj.after.toList.all (fun e => !Region.binds .any e || decide (e.on < j)) &&
    ops.zipIdx.all fun (oi, i) => !(decide (i < j)) || (!(isW oi.op && isW oj.op) && !touchTmps ops oi oj) || isBefore bs i j
/-- Reads and writes, memory made and writes, that may come in either order. -/
def confl (ops : List Oper) : List (Nat × Nat) :=
  let bs := befs ops
  ops.zipIdx.flatMap fun (oi, i) => if isR oi.op || isNew oi.op then
      ops.zipIdx.filterMap fun (oj, j) => if isW oj.op && !isBefore bs i j && !isBefore bs j i then some (i, j) else none
    else []
def okPair (tr : List Step) (p : Nat × Nat) : Prop :=
  match tr[p.1]?, tr[p.2]? with
  | some r, some s => r.ran = true → s.ran = true → ∀ x, (readOf (ev r.fr) r.o.op = some x ∨ (isNew r.o.op = true ∧ x = r.H.length)) → readRow s.H x = readRow s.H' x
  | _, _ => True

/-! ### What is asked of a function's text once -/
def okOperand : Operand → Bool
  | .const v => closedConst v
  | .tmp _ | .func _ => true
  | .global _ => false
def okOper (n : Nat) (o : Oper) : Bool :=
  (match o.dst with | some d => decide (d < n) | none => true) && o.op.operands.all okOperand &&
  (match o.op with | .select .. => false | .go _ => false | .defer _ => false | _ => true)
def okCode (n : Nat) : Code → Bool
  | .skip | .ret | .exit _ => true
  | .region _ ops draw => ops.all (okOper n) && (!draw || drawOk ops.toList)
  | .seq a b => okCode n a && okCode n b
  | .cond c a b => okOperand c && okCode n a && okCode n b
  | .block _ c => okCode n c
  | .loop c => okCode n c
  | _ => false
def okFunc (fn : Func) : Bool :=
  fn.name != "runtime.NumGoroutine" && (match fn.body with | some c => okCode fn.ntmps c | none => false) &&
  fn.results.all fun | .tmp t => decide (t < fn.ntmps) | .cell a _ => decide (a < fn.ntmps)

/-! ### The run -/
inductive Task where
  | code (c : Code) (fr : Fr) (H : Heap) (e : Ex) (fr' : Fr) (H' : Heap)
  | ops (all : Array Oper) (l : List Oper) (fr : Fr) (H : Heap) (tr : List Step) (fr' : Fr) (H' : Heap)
  | call (f : FuncId) (args : List Value) (H : Heap) (v : Value) (H' : Heap)

inductive Ev (P : Program) (X : FuncId → List Value → Value → Prop) : Task → Prop
  | skip (fr : Fr) (H : Heap) : Ev P X (.code .skip fr H .normal fr H)
  | exit (id : Nat) (fr : Fr) (H : Heap) : Ev P X (.code (.exit id) fr H (.exit id) fr H)
  | ret (fr : Fr) (H : Heap) : Ev P X (.code .ret fr H .ret fr H)
  | seqN {a b : Code} {fr fr₁ fr₂ : Fr} {H H₁ H₂ : Heap} {e : Ex} : Ev P X (.code a fr H .normal fr₁ H₁) → Ev P X (.code b fr₁ H₁ e fr₂ H₂) → Ev P X (.code (.seq a b) fr H e fr₂ H₂)
  | seqE {a b : Code} {fr fr₁ : Fr} {H H₁ : Heap} {e : Ex} : Ev P X (.code a fr H e fr₁ H₁) → e ≠ .normal → Ev P X (.code (.seq a b) fr H e fr₁ H₁)
  | cond {c : Operand} {a b : Code} {fr fr₁ : Fr} {H H₁ : Heap} {e : Ex} {t : Bool} : ev fr c = .bool t → Ev P X (.code (if t then a else b) fr H e fr₁ H₁) → Ev P X (.code (.cond c a b) fr H e fr₁ H₁)
  | block {id : Nat} {c : Code} {fr fr₁ : Fr} {H H₁ : Heap} {e : Ex} : Ev P X (.code c fr H e fr₁ H₁) → Ev P X (.code (.block id c) fr H (e.out id) fr₁ H₁)
  | loopN {c : Code} {fr fr₁ fr₂ : Fr} {H H₁ H₂ : Heap} {e : Ex} : Ev P X (.code c fr H .normal fr₁ H₁) → Ev P X (.code (.loop c) fr₁ H₁ e fr₂ H₂) → Ev P X (.code (.loop c) fr H e fr₂ H₂)
  | loopE {c : Code} {fr fr₁ : Fr} {H H₁ : Heap} {e : Ex} : Ev P X (.code c fr H e fr₁ H₁) → e ≠ .normal → Ev P X (.code (.loop c) fr H e fr₁ H₁)
  | region {id : Nat} {ops : Array Oper} {fr fr₁ : Fr} {H H₁ : Heap} {tr : List Step} : Ev P X (.ops ops ops.toList fr H tr fr₁ H₁) → Ev P X (.code (.region id ops false) fr H .normal fr₁ H₁)
  | regionD {id : Nat} {ops : Array Oper} {fr fr₁ : Fr} {H H₁ : Heap} {tr : List Step} : Ev P X (.ops ops ops.toList fr H tr fr₁ H₁) → (∀ p ∈ confl ops.toList, okPair tr p) → Ev P X (.code (.region id ops true) fr H .normal fr₁ H₁)
  | nil (all : Array Oper) (fr : Fr) (H : Heap) : Ev P X (.ops all [] fr H [] fr H)
  | pass {all : Array Oper} {o : Oper} {rest : List Oper} {fr fr₁ : Fr} {H H₁ : Heap} {tr : List Step} : guardA all fr o = some false → Ev P X (.ops all rest (fr.put o.dst undef) H tr fr₁ H₁) →
      Ev P X (.ops all (o :: rest) fr H (⟨o, fr, H, false, undef, H⟩ :: tr) fr₁ H₁)
  | prim {all : Array Oper} {o : Oper} {rest : List Oper} {fr fr₁ : Fr} {H H₁ H₂ : Heap} {v : Value} {tr : List Step} : guardA all fr o = some true → primA P (ev fr) o.op H = some (v, H₁) → Ev P X (.ops all rest (fr.put o.dst v) H₁ tr fr₁ H₂) →
      Ev P X (.ops all (o :: rest) fr H (⟨o, fr, H, true, v, H₁⟩ :: tr) fr₁ H₂)
  | calls {all : Array Oper} {o : Oper} {rest : List Oper} {fr fr₁ : Fr} {H H₁ H₂ : Heap} {v : Value} {f : FuncId} {args : List Value} {tr : List Step} : guardA all fr o = some true → calleeA (ev fr) o.op = some (f, args) → Ev P X (.call f args H v H₁) →
      Ev P X (.ops all rest (fr.put o.dst v) H₁ tr fr₁ H₂) → Ev P X (.ops all (o :: rest) fr H (⟨o, fr, H, true, v, H₁⟩ :: tr) fr₁ H₂)
  | call {f : FuncId} {args : List Value} {H H₁ : Heap} {fr : Fr} {e : Ex} {fn : Func} {c : Code} {vs : List Value} : P.funcs[f]? = some fn → fn.body = some c → okFunc fn = true → args.length ≤ fn.ntmps → Ev P X (.code c (initFr args) H e fr H₁) → (e = .normal ∨ e = .ret) → resultsA P fn.results.toList fr H₁ = some vs → flats vs = true →
      Ev P X (.call f args H (tupled vs) H₁)
  | ext {f : FuncId} {args : List Value} {v : Value} (H : Heap) : X f args v → Ev P X (.call f args H v H)

section
variable {P : Program} {X : FuncId → List Value → Value → Prop}

def wpC (P : Program) (X : FuncId → List Value → Value → Prop) (c : Code) (fr : Fr) (H : Heap) (Q : Ex → Fr → Heap → Prop) : Prop := ∃ e fr' H', Ev P X (.code c fr H e fr' H') ∧ Q e fr' H'
def wpO (P : Program) (X : FuncId → List Value → Value → Prop) (all : Array Oper) (l : List Oper) (fr : Fr) (H : Heap) (K : Fr → Heap → Prop) : Prop := ∃ tr fr' H', Ev P X (.ops all l fr H tr fr' H') ∧ K fr' H'
def wpD (P : Program) (X : FuncId → List Value → Value → Prop) (all : Array Oper) (l : List Oper) (fr : Fr) (H : Heap) (K : List Step → Fr → Heap → Prop) : Prop := ∃ tr fr' H', Ev P X (.ops all l fr H tr fr' H') ∧ K tr fr' H'
/-- A call comes to a value and a heap of which Q holds. -/
def wpF (P : Program) (X : FuncId → List Value → Value → Prop) (f : FuncId) (args : List Value) (H : Heap) (Q : Value → Heap → Prop) : Prop := ∃ v H', Ev P X (.call f args H v H') ∧ Q v H'

theorem wpC.mono {c : Code} {fr : Fr} {H : Heap} {Q Q' : Ex → Fr → Heap → Prop} (h : wpC P X c fr H Q) (hq : ∀ e fr H, Q e fr H → Q' e fr H) : wpC P X c fr H Q' :=
  let ⟨e, fr', H', h1, h2⟩ := h; ⟨e, fr', H', h1, hq _ _ _ h2⟩
theorem wpF.mono {f : FuncId} {args : List Value} {H : Heap} {Q Q' : Value → Heap → Prop} (h : wpF P X f args H Q) (hq : ∀ v H, Q v H → Q' v H) : wpF P X f args H Q' :=
  let ⟨v, H', h1, h2⟩ := h; ⟨v, H', h1, hq _ _ h2⟩

def andThen (K : Fr → Heap → Prop) (Q : Ex → Fr → Heap → Prop) : Ex → Fr → Heap → Prop
  | .normal, fr, H => K fr H
  | e, fr, H => Q e fr H
def outOf (id : Nat) (Q : Ex → Fr → Heap → Prop) : Ex → Fr → Heap → Prop := fun e fr H => Q (e.out id) fr H
theorem andThen_normal (K : Fr → Heap → Prop) (Q : Ex → Fr → Heap → Prop) (fr : Fr) (H : Heap) : andThen K Q .normal fr H = K fr H := rfl
theorem andThen_ret (K : Fr → Heap → Prop) (Q : Ex → Fr → Heap → Prop) (fr : Fr) (H : Heap) : andThen K Q .ret fr H = Q .ret fr H := rfl
theorem andThen_exit (K : Fr → Heap → Prop) (Q : Ex → Fr → Heap → Prop) (i : Nat) (fr : Fr) (H : Heap) : andThen K Q (.exit i) fr H = Q (.exit i) fr H := rfl
theorem outOf_normal (id : Nat) (Q : Ex → Fr → Heap → Prop) (fr : Fr) (H : Heap) : outOf id Q .normal fr H = Q .normal fr H := rfl
theorem outOf_ret (id : Nat) (Q : Ex → Fr → Heap → Prop) (fr : Fr) (H : Heap) : outOf id Q .ret fr H = Q .ret fr H := rfl
theorem outOf_exit (id i : Nat) (Q : Ex → Fr → Heap → Prop) (fr : Fr) (H : Heap) : outOf id Q (.exit i) fr H = Q (if i = id then .normal else .exit i) fr H := rfl

theorem wpC_skip {fr : Fr} {H : Heap} {Q : Ex → Fr → Heap → Prop} (h : Q .normal fr H) : wpC P X .skip fr H Q := ⟨_, _, _, .skip fr H, h⟩
theorem wpC_exit {id : Nat} {fr : Fr} {H : Heap} {Q : Ex → Fr → Heap → Prop} (h : Q (.exit id) fr H) : wpC P X (.exit id) fr H Q := ⟨_, _, _, .exit id fr H, h⟩
theorem wpC_ret {fr : Fr} {H : Heap} {Q : Ex → Fr → Heap → Prop} (h : Q .ret fr H) : wpC P X .ret fr H Q := ⟨_, _, _, .ret fr H, h⟩
theorem wpC_seq {a b : Code} {fr : Fr} {H : Heap} {Q : Ex → Fr → Heap → Prop} (h : wpC P X a fr H (andThen (fun fr H => wpC P X b fr H Q) Q)) : wpC P X (.seq a b) fr H Q := by
  obtain ⟨e, fr₁, H₁, h1, h2⟩ := h
  cases e with
  | normal =>
    obtain ⟨e, fr₂, H₂, h3, h4⟩ := h2
    exact ⟨_, _, _, .seqN h1 h3, h4⟩
  | exit i => exact ⟨_, _, _, .seqE h1 (by simp), h2⟩
  | ret => exact ⟨_, _, _, .seqE h1 (by simp), h2⟩
theorem wpC_cond {c : Operand} {a b : Code} {fr : Fr} {H : Heap} {Q : Ex → Fr → Heap → Prop} {t : Bool} (hc : ev fr c = .bool t) (h1 : t = true → wpC P X a fr H Q) (h2 : t = false → wpC P X b fr H Q) : wpC P X (.cond c a b) fr H Q := by
  cases t with
  | true => obtain ⟨e, fr₁, H₁, h3, h4⟩ := h1 rfl; exact ⟨_, _, _, .cond hc h3, h4⟩
  | false => obtain ⟨e, fr₁, H₁, h3, h4⟩ := h2 rfl; exact ⟨_, _, _, .cond hc h3, h4⟩
theorem wpC_condT {c : Operand} {a b : Code} {fr : Fr} {H : Heap} {Q : Ex → Fr → Heap → Prop} (hc : ev fr c = .bool true) (h : wpC P X a fr H Q) : wpC P X (.cond c a b) fr H Q := wpC_cond hc (fun _ => h) (fun h => by cases h)
theorem wpC_condF {c : Operand} {a b : Code} {fr : Fr} {H : Heap} {Q : Ex → Fr → Heap → Prop} (hc : ev fr c = .bool false) (h : wpC P X b fr H Q) : wpC P X (.cond c a b) fr H Q := wpC_cond hc (fun h => by cases h) (fun _ => h)
theorem wpC_block {id : Nat} {c : Code} {fr : Fr} {H : Heap} {Q : Ex → Fr → Heap → Prop} (h : wpC P X c fr H (outOf id Q)) : wpC P X (.block id c) fr H Q := by
  obtain ⟨e, fr₁, H₁, h1, h2⟩ := h
  exact ⟨_, _, _, .block h1, h2⟩
theorem wpC_loop {c : Code} {Q : Ex → Fr → Heap → Prop} (I : Fr → Heap → Prop) (m : Fr → Heap → Nat)
    (round : ∀ fr H, I fr H → wpC P X c fr H (andThen (fun fr' H' => I fr' H' ∧ m fr' H' < m fr H) Q)) {fr : Fr} {H : Heap} (h0 : I fr H) : wpC P X (.loop c) fr H Q := by
  have key : ∀ n fr H, m fr H = n → I fr H → wpC P X (.loop c) fr H Q := by
    intro n
    induction n using Nat.strongRecOn with
    | _ n ih =>
      intro fr H hn hI
      obtain ⟨e, fr₁, H₁, h1, h2⟩ := round fr H hI
      cases e with
      | normal =>
        obtain ⟨hI1, hlt⟩ := h2
        obtain ⟨e, fr₂, H₂, h3, h4⟩ := ih _ (hn ▸ hlt) fr₁ H₁ rfl hI1
        exact ⟨_, _, _, .loopN h1 h3, h4⟩
      | exit i => exact ⟨_, _, _, .loopE h1 (by simp), h2⟩
      | ret => exact ⟨_, _, _, .loopE h1 (by simp), h2⟩
  exact key _ fr H rfl h0
/-- A loop with what is still to do counted by a number of its own. -/
theorem wpC_loopN {c : Code} {Q : Ex → Fr → Heap → Prop} (I : Nat → Fr → Heap → Prop)
    (round : ∀ n fr H, I n fr H → wpC P X c fr H (andThen (fun fr' H' => ∃ m, m < n ∧ I m fr' H') Q)) {n : Nat} {fr : Fr} {H : Heap} (h0 : I n fr H) : wpC P X (.loop c) fr H Q := by
  induction n using Nat.strongRecOn generalizing fr H with
  | _ n ih =>
    obtain ⟨e, fr₁, H₁, h1, h2⟩ := round n fr H h0
    cases e with
    | normal =>
      obtain ⟨m, hlt, hI1⟩ := h2
      obtain ⟨e, fr₂, H₂, h3, h4⟩ := ih m hlt hI1
      exact ⟨_, _, _, .loopN h1 h3, h4⟩
    | exit i => exact ⟨_, _, _, .loopE h1 (by simp), h2⟩
    | ret => exact ⟨_, _, _, .loopE h1 (by simp), h2⟩
theorem wpC_region {id : Nat} {l : List Oper} {fr : Fr} {H : Heap} {Q : Ex → Fr → Heap → Prop} (h : wpO P X l.toArray l fr H (Q .normal)) : wpC P X (.region id l.toArray false) fr H Q := by
  obtain ⟨tr, fr', H', h1, h2⟩ := h
  exact ⟨_, _, _, .region h1, h2⟩
theorem wpC_draw {id : Nat} {l : List Oper} {fr : Fr} {H : Heap} {Q : Ex → Fr → Heap → Prop} (hc : confl l = []) (h : wpO P X l.toArray l fr H (Q .normal)) : wpC P X (.region id l.toArray true) fr H Q := by
  obtain ⟨tr, fr', H', h1, h2⟩ := h
  exact ⟨_, _, _, .regionD h1 (by simp [hc]), h2⟩
theorem wpC_drawD {id : Nat} {l : List Oper} {fr : Fr} {H : Heap} {Q : Ex → Fr → Heap → Prop} (h : wpD P X l.toArray l fr H (fun tr fr' H' => (∀ p ∈ confl l, okPair tr p) ∧ Q .normal fr' H')) : wpC P X (.region id l.toArray true) fr H Q := by
  obtain ⟨tr, fr', H', h1, h2, h3⟩ := h
  exact ⟨_, _, _, .regionD h1 h2, h3⟩
theorem wpO_nil {all : Array Oper} {fr : Fr} {H : Heap} {K : Fr → Heap → Prop} (h : K fr H) : wpO P X all [] fr H K := ⟨_, _, _, .nil all fr H, h⟩
theorem wpO_pass {all : Array Oper} {o : Oper} {rest : List Oper} {fr : Fr} {H : Heap} {K : Fr → Heap → Prop} (hw : guardA all fr o = some false) (h : wpO P X all rest (fr.put o.dst undef) H K) : wpO P X all (o :: rest) fr H K := by
  obtain ⟨tr, fr', H', h1, h2⟩ := h
  exact ⟨_, _, _, .pass hw h1, h2⟩
theorem wpO_prim {all : Array Oper} {o : Oper} {rest : List Oper} {fr : Fr} {H H₁ : Heap} {v : Value} {K : Fr → Heap → Prop} (hw : guardA all fr o = some true) (hp : primA P (ev fr) o.op H = some (v, H₁)) (h : wpO P X all rest (fr.put o.dst v) H₁ K) : wpO P X all (o :: rest) fr H K := by
  obtain ⟨tr, fr', H', h1, h2⟩ := h
  exact ⟨_, _, _, .prim hw hp h1, h2⟩
theorem wpO_call {all : Array Oper} {o : Oper} {rest : List Oper} {fr : Fr} {H : Heap} {K : Fr → Heap → Prop} {f : FuncId} {args : List Value} (hw : guardA all fr o = some true) (hc : calleeA (ev fr) o.op = some (f, args))
    (h : wpF P X f args H (fun v H₁ => wpO P X all rest (fr.put o.dst v) H₁ K)) : wpO P X all (o :: rest) fr H K := by
  obtain ⟨v, H₁, h1, tr, fr', H', h2, h3⟩ := h
  exact ⟨_, _, _, .calls hw hc h1 h2, h3⟩
theorem wpD_nil {all : Array Oper} {fr : Fr} {H : Heap} {K : List Step → Fr → Heap → Prop} (h : K [] fr H) : wpD P X all [] fr H K := ⟨_, _, _, .nil all fr H, h⟩
theorem wpD_pass {all : Array Oper} {o : Oper} {rest : List Oper} {fr : Fr} {H : Heap} {K : List Step → Fr → Heap → Prop} (hw : guardA all fr o = some false) (h : wpD P X all rest (fr.put o.dst undef) H (fun tr => K (⟨o, fr, H, false, undef, H⟩ :: tr))) : wpD P X all (o :: rest) fr H K := by
  obtain ⟨tr, fr', H', h1, h2⟩ := h
  exact ⟨_, _, _, .pass hw h1, h2⟩
theorem wpD_prim {all : Array Oper} {o : Oper} {rest : List Oper} {fr : Fr} {H H₁ : Heap} {v : Value} {K : List Step → Fr → Heap → Prop} (hw : guardA all fr o = some true) (hp : primA P (ev fr) o.op H = some (v, H₁)) (h : wpD P X all rest (fr.put o.dst v) H₁ (fun tr => K (⟨o, fr, H, true, v, H₁⟩ :: tr))) : wpD P X all (o :: rest) fr H K := by
  obtain ⟨tr, fr', H', h1, h2⟩ := h
  exact ⟨_, _, _, .prim hw hp h1, h2⟩
theorem wpD_call {all : Array Oper} {o : Oper} {rest : List Oper} {fr : Fr} {H : Heap} {K : List Step → Fr → Heap → Prop} {f : FuncId} {args : List Value} (hw : guardA all fr o = some true) (hc : calleeA (ev fr) o.op = some (f, args))
    (h : wpF P X f args H (fun v H₁ => wpD P X all rest (fr.put o.dst v) H₁ (fun tr => K (⟨o, fr, H, true, v, H₁⟩ :: tr)))) : wpD P X all (o :: rest) fr H K := by
  obtain ⟨v, H₁, h1, tr, fr', H', h2, h3⟩ := h
  exact ⟨_, _, _, .calls hw hc h1 h2, h3⟩
/-- Behind a function's body. -/
def atEnd (P : Program) (rs : List ResultVar) (Q : Value → Heap → Prop) : Ex → Fr → Heap → Prop
  | .exit _, _, _ => False
  | _, fr, H => ∃ vs, resultsA P rs fr H = some vs ∧ flats vs = true ∧ Q (tupled vs) H
theorem wpF_body {f : FuncId} {fn : Func} {c : Code} {rs : List ResultVar} {args : List Value} {H : Heap} {Q : Value → Heap → Prop} (hf : P.funcs[f]? = some fn) (hb : fn.body = some c) (hr : fn.results.toList = rs) (hk : okFunc fn = true) (hn : args.length ≤ fn.ntmps)
    (h : wpC P X c (initFr args) H (atEnd P rs Q)) : wpF P X f args H Q := by
  obtain ⟨e, fr, H₁, h1, h2⟩ := h
  cases e with
  | normal => obtain ⟨vs, h3, h5, h4⟩ := h2; exact ⟨_, _, .call hf hb hk hn h1 (.inl rfl) (hr ▸ h3) h5, h4⟩
  | ret => obtain ⟨vs, h3, h5, h4⟩ := h2; exact ⟨_, _, .call hf hb hk hn h1 (.inr rfl) (hr ▸ h3) h5, h4⟩
  | exit i => exact h2.elim
theorem wpF_ext {f : FuncId} {args : List Value} {v : Value} {H : Heap} {Q : Value → Heap → Prop} (h : X f args v) (hq : Q v H) : wpF P X f args H Q := ⟨_, _, .ext H h, hq⟩
end
end Go.Proofs.Ytmbikamebhoelaa.Ai
