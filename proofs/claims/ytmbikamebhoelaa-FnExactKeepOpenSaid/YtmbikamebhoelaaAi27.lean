/- A run over the plain heap, computed. No condition. -/
import Derived.Test.YtmbikamebhoelaaAi2
set_option linter.unusedVariables false
set_option linter.unusedSimpArgs false
namespace Go.Proofs.Ytmbikamebhoelaa.Ai
open Go

/-- Equal one-cell values, told by computing. -/
def veq : Value → Value → Bool
  | .int k a, .int k' b => decide (k = k') && decide (a = b)
  | .bool a, .bool b => a == b
  | .string a, .string b => decide (a = b)
  | .pointer (some ⟨b, o, none⟩), .pointer (some ⟨b', o', none⟩) => decide (b = b') && decide (o = o')
  | .slice (some ⟨b, o, none⟩) l c, .slice (some ⟨b', o', none⟩) l' c' => decide (b = b') && decide (o = o') && decide (l = l') && decide (c = c')
  | .pointer none, .pointer none => true
  | .nilFunc, .nilFunc => true
  | _, _ => false
theorem veq_ok {a b : Value} (h : veq a b = true) : a = b := by
  unfold veq at h
  split at h <;> simp_all
def vseq : List Value → List Value → Bool
  | [], [] => true
  | a :: as, b :: bs => veq a b && vseq as bs
  | _, _ => false
theorem vseq_ok : ∀ {a b : List Value}, vseq a b = true → a = b
  | [], [], _ => rfl
  | [], _ :: _, h => by cases h
  | _ :: _, [], h => by cases h
  | a :: as, b :: bs, h => by
    simp only [vseq, Bool.and_eq_true] at h
    rw [veq_ok h.1, vseq_ok h.2]
def roweq : Option Row → Option Row → Bool
  | none, none => true
  | some r, some s => vseq r.cells s.cells && decide (r.esz = s.esz) && r.own == s.own
  | _, _ => false
theorem roweq_ok {a b : Option Row} (h : roweq a b = true) : a = b := by
  unfold roweq at h
  split at h
  · rfl
  · rename_i r s
    simp only [Bool.and_eq_true, decide_eq_true_eq, beq_iff_eq] at h
    obtain ⟨⟨h1, h2⟩, h3⟩ := h
    cases r; cases s
    simp only at h1 h2 h3
    rw [vseq_ok h1, h2, h3]
  · cases h
def okPairB (tr : List Step) (p : Nat × Nat) : Bool :=
  match tr[p.1]?, tr[p.2]? with
  | some r, some s => !(r.ran && s.ran) || (match readOf (ev r.fr) r.o.op with
    | some x => roweq (readRow s.H x) (readRow s.H' x)
    | none => true)
  | _, _ => true
theorem okPairB_ok {tr : List Step} {p : Nat × Nat} (h : okPairB tr p = true) : okPair tr p := by
  unfold okPairB at h
  unfold okPair
  split at h
  · rename_i r s h1 h2
    simp only [h1, h2]
    intro hr hs x hx
    simp only [hr, hs, hx, Bool.and_self, Bool.not_true, Bool.false_or] at h
    exact roweq_ok h
  · rename_i h1
    split
    · rename_i r s h2 h3; exact absurd h3 (h1 r s h2)
    · trivial
abbrev Tab := FuncId → Option Func
abbrev CallR := FuncId → List Value → Heap → Option (Value × Heap)
abbrev PrimR := (Operand → Value) → Op → Heap → Option (Value × Heap)
def runOps (prim : PrimR) (call : CallR) (all : Array Oper) : List Oper → Fr → Heap → Option (List Step × Fr × Heap)
  | [], fr, H => some ([], fr, H)
  | o :: rest, fr, H =>
    match guardA all fr o with
    | none => none
    | some false => (runOps prim call all rest (fr.put o.dst undef) H).map fun (tr, x) => (⟨o, fr, H, false, undef, H⟩ :: tr, x)
    | some true =>
      match prim (ev fr) o.op H with
      | some (v, H₁) => (runOps prim call all rest (fr.put o.dst v) H₁).map fun (tr, x) => (⟨o, fr, H, true, v, H₁⟩ :: tr, x)
      | none =>
        match calleeA (ev fr) o.op with
        | none => none
        | some (f, args) =>
          match call f args H with
          | none => none
          | some (v, H₁) => (runOps prim call all rest (fr.put o.dst v) H₁).map fun (tr, x) => (⟨o, fr, H, true, v, H₁⟩ :: tr, x)
def iterR (step : Fr → Heap → Option (Ex × Fr × Heap)) : Nat → Fr → Heap → Option (Ex × Fr × Heap)
  | 0, _, _ => none
  | m + 1, fr, H =>
    match step fr H with
    | some (.normal, fr₁, H₁) => iterR step m fr₁ H₁
    | some (e, fr₁, H₁) => some (e, fr₁, H₁)
    | none => none
def runC (prim : PrimR) (call : CallR) (m : Nat) : Code → Fr → Heap → Option (Ex × Fr × Heap)
  | .skip, fr, H => some (.normal, fr, H)
  | .ret, fr, H => some (.ret, fr, H)
  | .exit i, fr, H => some (.exit i, fr, H)
  | .seq a b, fr, H =>
    match runC prim call m a fr H with
    | some (.normal, fr₁, H₁) => runC prim call m b fr₁ H₁
    | some (e, fr₁, H₁) => some (e, fr₁, H₁)
    | none => none
  | .cond c a b, fr, H =>
    match ev fr c with
    | .bool true => runC prim call m a fr H
    | .bool false => runC prim call m b fr H
    | _ => none
  | .block i c, fr, H => (runC prim call m c fr H).map fun (e, x) => (e.out i, x)
  | .loop c, fr, H => iterR (runC prim call m c) m fr H
  | .region _ ops draw, fr, H =>
    match runOps prim call ops ops.toList fr H with
    | some (tr, fr₁, H₁) => if draw && !((confl ops.toList).all (okPairB tr)) then none else some (.normal, fr₁, H₁)
    | none => none
  | _, _, _ => none
def runF (P : Program) (prim : PrimR) (tab : Tab) (m : Nat) : Nat → CallR
  | 0, _, _, _ => none
  | n + 1, f, args, H =>
    match tab f with
    | none => none
    | some fn =>
      match fn.body with
      | none => none
      | some c =>
        if args.length ≤ fn.ntmps then
          match runC prim (runF P prim tab m n) m c (initFr args) H with
          | some (.exit _, _, _) => none
          | some (_, fr, H₁) =>
            match resultsA P fn.results.toList fr H₁ with
            | some vs => if flats vs = true then some (tupled vs, H₁) else none
            | none => none
          | none => none
        else none
section
variable {P : Program} {X : FuncId → List Value → Value → Prop} {prim : PrimR} {tab : Tab}

def PrimOk (P : Program) (prim : PrimR) : Prop := ∀ ρ o H r, prim ρ o H = some r → primA P ρ o H = some r
def TabOk (P : Program) (tab : Tab) : Prop := ∀ f fn, tab f = some fn → P.funcs[f]? = some fn ∧ okFunc fn = true
def CallOk (P : Program) (X : FuncId → List Value → Value → Prop) (call : CallR) : Prop := ∀ f args H v H', call f args H = some (v, H') → Ev P X (.call f args H v H')
theorem runOps_ok (hp : PrimOk P prim) {call : CallR} (hc : CallOk P X call) {all : Array Oper} : ∀ (l : List Oper) (fr : Fr) (H : Heap) (tr : List Step) (fr' : Fr) (H' : Heap), runOps prim call all l fr H = some (tr, fr', H') → Ev P X (.ops all l fr H tr fr' H')
  | [], fr, H, tr, fr', H', h => by simp [runOps] at h; obtain ⟨rfl, rfl, rfl⟩ := h; exact .nil all fr H
  | o :: rest, fr, H, tr, fr', H', h => by
    simp only [runOps] at h
    split at h
    · cases h
    · rename_i hg
      cases hr : runOps prim call all rest (fr.put o.dst undef) H with
      | none => simp [hr] at h
      | some x =>
        obtain ⟨tr1, fr1, H1⟩ := x
        simp [hr] at h
        obtain ⟨rfl, rfl, rfl⟩ := h
        exact .pass hg (runOps_ok hp hc rest _ _ _ _ _ hr)
    · rename_i hg
      split at h
      · rename_i v H₁ hpr
        cases hr : runOps prim call all rest (fr.put o.dst v) H₁ with
        | none => simp [hr] at h
        | some x =>
          obtain ⟨tr1, fr1, H1⟩ := x
          simp [hr] at h
          obtain ⟨rfl, rfl, rfl⟩ := h
          exact .prim hg (hp _ _ _ _ hpr) (runOps_ok hp hc rest _ _ _ _ _ hr)
      · split at h
        · cases h
        · rename_i f args hcal
          split at h
          · cases h
          · rename_i v H₁ hcl
            cases hr : runOps prim call all rest (fr.put o.dst v) H₁ with
            | none => simp [hr] at h
            | some x =>
              obtain ⟨tr1, fr1, H1⟩ := x
              simp [hr] at h
              obtain ⟨rfl, rfl, rfl⟩ := h
              exact .calls hg hcal (hc _ _ _ _ _ hcl) (runOps_ok hp hc rest _ _ _ _ _ hr)
theorem iter_ok {step : Fr → Heap → Option (Ex × Fr × Heap)} {c : Code} (hs : ∀ fr H e fr' H', step fr H = some (e, fr', H') → Ev P X (.code c fr H e fr' H')) : ∀ (m : Nat) (fr : Fr) (H : Heap) (e : Ex) (fr' : Fr) (H' : Heap), iterR step m fr H = some (e, fr', H') → Ev P X (.code (.loop c) fr H e fr' H')
  | 0, _, _, _, _, _, h => by simp [iterR] at h
  | m + 1, fr, H, e, fr', H', h => by
    simp only [iterR] at h
    split at h
    · rename_i fr₁ H₁ h1
      exact .loopN (hs _ _ _ _ _ h1) (iter_ok hs m _ _ _ _ _ h)
    · rename_i e1 fr₁ H₁ hne h1
      cases h
      exact .loopE (hs _ _ _ _ _ h1) hne
    · cases h
theorem runC_ok (hp : PrimOk P prim) {call : CallR} (hc : CallOk P X call) {m : Nat} : ∀ (c : Code) (fr : Fr) (H : Heap) (e : Ex) (fr' : Fr) (H' : Heap), runC prim call m c fr H = some (e, fr', H') → Ev P X (.code c fr H e fr' H') := by
  intro c
  induction c with
  | skip => intro fr H e fr' H' h; simp [runC] at h; obtain ⟨rfl, rfl, rfl⟩ := h; exact .skip _ _
  | ret => intro fr H e fr' H' h; simp [runC] at h; obtain ⟨rfl, rfl, rfl⟩ := h; exact .ret _ _
  | exit i => intro fr H e fr' H' h; simp [runC] at h; obtain ⟨rfl, rfl, rfl⟩ := h; exact .exit _ _ _
  | seq a b iha ihb =>
    intro fr H e fr' H' h
    simp only [runC] at h
    split at h
    · rename_i fr₁ H₁ h1
      exact .seqN (iha _ _ _ _ _ h1) (ihb _ _ _ _ _ h)
    · rename_i e1 fr₁ H₁ hne h1
      cases h
      exact .seqE (iha _ _ _ _ _ h1) hne
    · cases h
  | cond c a b iha ihb =>
    intro fr H e fr' H' h
    simp only [runC] at h
    split at h
    · rename_i hc'; exact .cond (t := true) hc' (iha _ _ _ _ _ h)
    · rename_i hc'; exact .cond (t := false) hc' (ihb _ _ _ _ _ h)
    · cases h
  | block i c ih =>
    intro fr H e fr' H' h
    simp only [runC] at h
    cases hr : runC prim call m c fr H with
    | none => simp [hr] at h
    | some x =>
      obtain ⟨e1, fr1, H1⟩ := x
      simp [hr] at h
      obtain ⟨rfl, rfl, rfl⟩ := h
      exact .block (ih _ _ _ _ _ hr)
  | loop c ih => intro fr H e fr' H' h; exact iter_ok ih m _ _ _ _ _ h
  | region i ops draw =>
    intro fr H e fr' H' h
    simp only [runC] at h
    split at h
    · rename_i tr fr₁ H₁ h1
      have hev := runOps_ok hp hc _ _ _ _ _ _ h1
      split at h
      · cases h
      · rename_i hd
        cases h
        cases draw with
        | false => exact .region hev
        | true =>
          have : (confl ops.toList).all (okPairB tr) = true := by simpa using hd
          exact .regionD hev (fun p hp => okPairB_ok (List.all_eq_true.1 this p hp))
    · cases h
  | _ => intro fr H e fr' H' h; simp [runC] at h
theorem runF_ok (hp : PrimOk P prim) (ht : TabOk P tab) {m : Nat} : ∀ n, CallOk P X (runF P prim tab m n)
  | 0, f, args, H, v, H', h => by simp [runF] at h
  | n + 1, f, args, H, v, H', h => by
    simp only [runF] at h
    split at h
    · cases h
    · rename_i fn hf
      obtain ⟨k1, k2⟩ := ht f fn hf
      split at h
      · cases h
      · rename_i c hb
        split at h
        · rename_i hn
          split at h
          · cases h
          · rename_i e fr H₁ hne hr
            split at h
            · rename_i vs hvs
              split at h
              · rename_i hfl
                cases h
                refine .call k1 hb k2 hn (runC_ok hp (runF_ok hp ht n) c _ _ _ _ _ hr) ?_ hvs hfl
                cases e with
                | normal => exact .inl rfl
                | ret => exact .inr rfl
                | exit i => exact (hne i rfl).elim
              · cases h
            · cases h
          · cases h
        · cases h
theorem wpF_run (hp : PrimOk P prim) (ht : TabOk P tab) {m n : Nat} {f : FuncId} {args : List Value} {H H' : Heap} {v : Value} {Q : Value → Heap → Prop} (h : runF P prim tab m n f args H = some (v, H')) (hq : Q v H') : wpF P X f args H Q :=
  ⟨v, H', runF_ok hp ht n _ _ _ _ _ h, hq⟩
noncomputable def tabL (l : List (Nat × Func)) : Tab := fun f => l.lookup f
theorem tabL_ok {P : Program} : ∀ (l : List (Nat × Func)), (∀ p ∈ l, P.funcs[p.1]? = some p.2 ∧ okFunc p.2 = true) → TabOk P (tabL l)
  | [], _, f, fn, h => by simp [tabL] at h
  | (k, g) :: l, hl, f, fn, h => by
    simp only [tabL, List.lookup_cons] at h
    split at h
    · rename_i hk
      cases h
      have : f = k := by simpa using hk
      subst this
      exact hl (f, g) (by simp)
    · exact tabL_ok l (fun p hp => hl p (by simp [hp])) f fn h
def saysTrue : Option (Value × Heap) → Bool
  | some (.bool true, _) => true
  | _ => false
theorem wpF_true (hp : PrimOk P prim) (ht : TabOk P tab) {m n : Nat} {f : FuncId} {args : List Value} {H : Heap} (h : saysTrue (runF P prim tab m n f args H) = true) : wpF P X f args H (fun v _ => v = .bool true) := by
  unfold saysTrue at h
  split at h
  · rename_i H' hr; exact wpF_run hp ht hr rfl
  · cases h
theorem primA_ok : PrimOk P (primA P) := fun _ _ _ _ h => h
def leN : Nat → Nat → Bool
  | 0, _ => true
  | _ + 1, 0 => false
  | a + 1, b + 1 => leN a b
theorem leN_ok : ∀ a b, leN a b = decide (a ≤ b)
  | 0, _ => by simp [leN]
  | _ + 1, 0 => by simp [leN]
  | a + 1, b + 1 => by simp [leN, leN_ok a b]
def ltZ : Int → Int → Bool
  | .negSucc a, .negSucc b => leN (b + 1) a
  | .negSucc _, .ofNat _ => true
  | .ofNat _, .negSucc _ => false
  | .ofNat a, .ofNat b => leN (a + 1) b
theorem ltZ_ok (x y : Int) : ltZ x y = decide (x < y) := by
  cases x <;> cases y <;> simp only [ltZ, leN_ok] <;> congr 1 <;> simp <;> omega
/-- As 'primA', but numbers are compared digit by digit: it computes where one of them is known by its sign or its first successors alone. -/
def primS (P : Program) : PrimR := fun ρ o H =>
  match o with
  | .binOp op t x y p =>
    match ρ x, ρ y with
    | .int k a, .int k' b =>
      if k = k' then
        match op with
        | .lss => some (.bool (ltZ a b), H)
        | .leq => some (.bool (!ltZ b a), H)
        | .gtr => some (.bool (ltZ b a), H)
        | .geq => some (.bool (!ltZ a b), H)
        | _ => primA P ρ (.binOp op t x y p) H
      else none
    | _, _ => primA P ρ (.binOp op t x y p) H
  | o => primA P ρ o H
theorem primS_ok : PrimOk P (primS P) := fun ρ o H r h => by
  unfold primS at h
  split at h
  · rename_i op t x y p
    split at h
    · rename_i k a k' b hx hy
      split at h
      · rename_i hk
        split at h
        · cases h; simp only [primA, hx, hy, binA, if_pos hk, intA, cmpA, ltZ_ok, Option.map_some]
        · cases h; simp only [primA, hx, hy, binA, if_pos hk, intA, cmpA, ltZ_ok, Option.map_some]; congr 3; simp [← decide_not]
        · cases h; simp only [primA, hx, hy, binA, if_pos hk, intA, cmpA, ltZ_ok, Option.map_some, gt_iff_lt]
        · cases h; simp only [primA, hx, hy, binA, if_pos hk, intA, cmpA, ltZ_ok, Option.map_some]; congr 3; simp [← decide_not]
        · exact h
      · cases h
    · exact h
  · exact h
end
end Go.Proofs.Ytmbikamebhoelaa.Ai
