/- Each operation, and each run of operations in the text's order, on the machine as on the plain heap. No condition. -/
import Derived.Test.YtmbikamebhoelaaAi12
import Derived.Tactics
set_option linter.unusedVariables false
set_option linter.unusedSimpArgs false
namespace Go.Proofs.Ytmbikamebhoelaa.Ai
open Go
section
variable {P : Program} {X : FuncId → List Value → Value → Prop}

theorem V_undef {ρ : Rho} : V ρ undef undef := ⟨#[], rfl, trivial⟩
theorem V_undef_eq {ρ : Rho} {vs : Array Value} {v : Value} (hv : vs.isEmpty = true) (h : V ρ (.tuple vs) v) : v = undef := by
  obtain ⟨vs', rfl, h2⟩ := h
  have : vs = #[] := by simpa using hv
  subst this
  have := h2.length
  have : vs' = #[] := by
    cases vs' with
    | mk l => cases l with
      | nil => rfl
      | cons a l => simp at this
  rw [this]; rfl

/-- The rows that are made have their place in the machine's memory. -/
def Full (H H' : Heap) (ρ' : Rho) : Prop := ∀ id r, H.length ≤ id → readRow H' id = some r → ∃ l, ρ' id = some l
theorem full_same {H H' : Heap} {ρ' : Rho} (h : H'.length ≤ H.length) : Full H H' ρ' := fun id r h1 h2 => by have := readRow_lt h2; omega
theorem full_one {H H' : Heap} {ρ' : Rho} {l : Loc} (h : H'.length ≤ H.length + 1) (hl : ρ' H.length = some l) : Full H H' ρ' := fun id r h1 h2 => by
  have := readRow_lt h2
  have : id = H.length := by omega
  exact ⟨l, by rw [this]; exact hl⟩
theorem Full.trans {ρ₁ ρ₂ : Rho} {H H₁ H₂ : Heap} {w₁ w₂ : World} (h : Full H H₁ ρ₁) (k : Stp ρ₁ H₁ w₁ ρ₂ H₂ w₂) (g : Full H₁ H₂ ρ₂) : Full H H₂ ρ₂ := fun id r h1 h2 => by
  rcases Nat.lt_or_ge id H₁.length with q | q
  · cases hx : readRow H₁ id with
    | none => rw [k.dead id q hx] at h2; cases h2
    | some r0 =>
      obtain ⟨l, hl⟩ := h id r0 h1 hx
      exact ⟨l, by rw [k.old id q]; exact hl⟩
  · exact g id r q h2
theorem storeA_len {t : TypeId} {p x : Value} {H H' : Heap} (h : storeA P t p x H = some H') : H'.length = H.length := by
  unfold storeA at h
  split at h
  · rename_i id off
    cases hr : readRow H id with
    | none => simp [hr] at h
    | some r =>
      simp only [hr, Option.bind_some] at h
      split at h
      · cases h; simp
      · cases h
  · cases h
theorem copyA_len {t : TypeId} {d s v : Value} {H H' : Heap} (h : copyA P t d s H = some (v, H')) : H'.length = H.length := by
  unfold copyA at h
  split at h
  · rename_i id off dl b l
    cases he : telem P t with
    | none => simp [he] at h
    | some e =>
      cases hn : tsz P e with
      | none => simp [he, hn] at h
      | some n =>
        simp only [he, hn, Option.bind_some] at h
        cases hc : cellsAt H (.slice (some b) l 0) (Nat.min l dl) n with
        | none => rw [hc] at h; simp at h
        | some cs =>
          rw [hc] at h
          simp only [Option.bind_some] at h
          split at h
          · cases h; rfl
          · cases hr : readRow H id with
            | none => rw [hr] at h; simp at h
            | some r =>
              rw [hr] at h
              simp only [Option.bind_some] at h
              split at h
              · cases h; simp
              · cases h
  · cases h
theorem appendA_full {t : TypeId} {s x v v' : Value} {H H' : Heap} {ρ' : Rho} (hpos : 0 < H.length) (h : appendA P t s x H = some (v, H')) (hv : V ρ' v v') : Full H H' ρ' := by
  have one : ∀ {len : Nat} {v' : Value}, V ρ' (sl H.length 0 len) v' → ∃ l, ρ' H.length = some l := fun {len v'} hv => by
    obtain ⟨_, _, h3⟩ := hv
    rcases h3 with ⟨h4, _⟩ | ⟨_, l, h5, _⟩
    · exact absurd h4 (Nat.ne_of_gt hpos)
    · exact ⟨l, h5⟩
  unfold appendA at h
  split at h
  · rename_i id off len b k
    cases he : telem P t with
    | none => simp [he] at h
    | some e =>
      cases hn : tsz P e with
      | none => simp [he, hn] at h
      | some n =>
        cases hb : tby P e with
        | none => simp [he, hn, hb] at h
        | some bb =>
          cases hz : zeroCellsT P e with
          | none => simp [he, hn, hb, hz] at h
          | some z =>
            simp only [he, hn, hb, hz, Option.bind_some] at h
            split at h
            · cases h; exact full_same (Nat.le_refl _)
            · split at h
              · cases ho : cellsAt H (.slice (some ⟨id, off, none⟩) len 0) len n with
                | none => rw [ho] at h; simp at h
                | some old =>
                  cases hw : cellsAt H (.slice (some b) k 0) k n with
                  | none => rw [ho, hw] at h; simp at h
                  | some new =>
                    rw [ho, hw] at h
                    simp only [Option.bind_some] at h
                    split at h
                    · cases h
                    · split at h
                      · cases h
                        obtain ⟨l, hl⟩ := one hv
                        exact full_one (by simp [newA]) hl
                      · split at h
                        · cases hr : readRow H id with
                          | none => rw [hr] at h; simp at h
                          | some r =>
                            rw [hr] at h
                            simp only [Option.bind_some] at h
                            split at h
                            · cases h
                              obtain ⟨l, hl⟩ := one hv
                              exact full_one (by simp [newA]) hl
                            · cases h
                        · cases h
              · cases h
  · cases h
theorem prim_ok {o : Oper} {ρ : Rho} {w : World} {ρa ρm : Operand → Value} {H H₁ : Heap} {v : Value} (hops : ∀ x ∈ o.op.operands, V ρ (ρa x) (ρm x)) (hr : Rel ρ H w) (h : primA P ρa o.op H = some (v, H₁)) :
    ∃ v' ρ' w', ((execOp ρm o).run P w = .ok (.value v') w' ∨ ((execOp ρm o).run P w = .ok .skip w' ∧ v' = undef)) ∧ Stp ρ H w ρ' H₁ w' ∧ V ρ' v v' ∧ Full H H₁ ρ' := by
  by_cases hn : isNew o.op = true
  · obtain ⟨r, f, ho, rfl, rfl, _, c, e, v', hrun, hc, hv⟩ := new_ok (w := w) hops hn h
    refine ⟨v', _, _, .inl hrun, new_stp hr ho hc.pre, hv _ _ (by have := hr.pos; omega) (Rho.put_self _ _ _), full_one (by simp) (Rho.put_self _ _ _)⟩
  · replace hn : isNew o.op = false := by simpa using hn
    by_cases hw : isW o.op = true
    · obtain ⟨dst, op, type, pos, after, guard⟩ := o
      cases op <;> try (cases hw; done)
      case store t a x =>
        simp only [primA] at h
        cases hs : storeA P t (ρa a) (ρa x) H with
        | none => simp [hs] at h
        | some H' =>
          simp [hs] at h
          obtain ⟨rfl, rfl⟩ := h
          obtain ⟨w', h1, h2⟩ := store_ok (P := P) hr (hops a (by simp [Op.operands])) (hops x (by simp [Op.operands])) hs
          refine ⟨undef, ρ, w', .inr ⟨?_, rfl⟩, h2, V_undef, full_same (Nat.le_of_eq (storeA_len hs))⟩
          show ((do Instr.storeAt t (ρm a) (ρm x); pure .skip : Sem Next)).run P w = _
          simp only [Sem.run_bind, h1, Result.andThen_ok, Sem.run_pure]
      case call c =>
        obtain ⟨callee, args, ats⟩ := c
        cases callee with
        | value f => simp only [primA, reduceCtorEq] at h
        | invoke r m => simp only [primA, reduceCtorEq] at h
        | builtin b =>
          have two : ∀ {x y : Value}, args.toList.map ρa = [x, y] → ∃ p q, args = #[p, q] ∧ ρa p = x ∧ ρa q = y := fun {x y} ha => by
            have : ∃ p q, args.toList = [p, q] ∧ ρa p = x ∧ ρa q = y := by
              cases hl : args.toList with
              | nil => rw [hl] at ha; simp at ha
              | cons p l => cases l with
                | nil => rw [hl] at ha; simp at ha
                | cons q l => cases l with
                  | nil => rw [hl] at ha; simp at ha; exact ⟨p, q, rfl, ha.1, ha.2⟩
                  | cons z l => rw [hl] at ha; simp at ha
            obtain ⟨p, q, h1, h2, h3⟩ := this
            exact ⟨p, q, by cases args; simp at h1; rw [h1], h2, h3⟩
          have twoT : ∀ {x y : TypeId}, ats.toList = [x, y] → ats[0]? = some x ∧ ats[1]? = some y := fun {x y} ha => by
            cases ats; simp at ha; subst ha; exact ⟨rfl, rfl⟩
          simp only [primA] at h
          unfold builtinA at h
          split at h
          · cases hw
          · rename_i t u x y ht ha
            obtain ⟨p, q, rfl, rfl, rfl⟩ := two ha
            obtain ⟨t1, t2⟩ := twoT ht
            cases hu : telem P u with
            | none => simp [hu] at h
            | some e =>
              simp only [hu, Option.bind_some] at h
              obtain ⟨v', ρ', w', h1, h2, h3⟩ := append_ok (ty := type) hr (hops p (by simp [Op.operands, Call.operands])) (hops q (by simp [Op.operands, Call.operands])) t1 t2 (by rw [hu]; rfl) h
              refine ⟨v', ρ', w', .inl ?_, h2, h3, appendA_full hr.pos h h3⟩
              show ((do pure (.value (← Builtin.append_ ats type ((#[p, q] : Array Operand).map ρm)))) : Sem Next).run P w = _
              rw [show (#[p, q] : Array Operand).map ρm = #[ρm p, ρm q] from by simp]
              simp only [Sem.run_bind, h1, Result.andThen_ok, Sem.run_pure]
          · rename_i t u x y ht ha
            obtain ⟨p, q, rfl, rfl, rfl⟩ := two ha
            obtain ⟨t1, t2⟩ := twoT ht
            obtain ⟨w', h1, h2, h3⟩ := copy_ok (ty := type) hr (hops p (by simp [Op.operands, Call.operands])) (hops q (by simp [Op.operands, Call.operands])) t1 h
            refine ⟨v, ρ, w', .inl ?_, h2, h3, full_same (Nat.le_of_eq (copyA_len h))⟩
            show ((do pure (.value (← Builtin.copy_ ats type ((#[p, q] : Array Operand).map ρm)))) : Sem Next).run P w = _
            rw [show (#[p, q] : Array Operand).map ρm = #[ρm p, ρm q] from by simp]
            simp only [Sem.run_bind, h1, Result.andThen_ok, Sem.run_pure]
          · cases hw
          · cases hw
          · cases h
    · replace hw : isW o.op = false := by simpa using hw
      obtain ⟨rfl, v', h1, h2⟩ := pure_ok (w := w) hops hr.zero (fun x _ l r hl hrow => hr.rows x l r hl hrow) hn hw h
      exact ⟨v', ρ, w, .inl h1, Stp.refl hr, h2, full_same (Nat.le_refl _)⟩

/-! ### Calls -/
/-- What a call on the plain heap says of the machine's. -/
def SimCall (P : Program) (f : FuncId) (args : List Value) (H : Heap) (v : Value) (H' : Heap) : Prop :=
  (∃ fn, P.funcs[f]? = some fn ∧ fn.body.isSome = true ∧ fn.name ≠ "runtime.NumGoroutine") ∧
  ∀ ρ w (args' : Array Value), Rel ρ H w → All2 (V ρ) args args'.toList → Calls P f args' w fun e w' => ∃ v' ρ', e = .returned v' ∧ Stp ρ H w ρ' H' w' ∧ V ρ' v v' ∧ Full H H' ρ'
/-- What a step says of the machine's operation. -/
def SimStep (P : Program) (s : Step) : Prop :=
  s.ran = true → ∀ (ρ : Rho) (w : World) (a : Act), Rel ρ s.H w → (∀ x ∈ s.o.op.operands, V ρ (ev s.fr x) (a.eval x)) → ∀ (K : Act → World → Prop) (Q : Exit → Act → World → Prop), (∀ v' ρ' w', Stp ρ s.H w ρ' s.H' w' → V ρ' s.v v' → Full s.H s.H' ρ' → K (a.put s.o.dst v') w') → s.o.wp P a w K Q
theorem simStep_prim {s : Step} (h : primA P (ev s.fr) s.o.op s.H = some (s.v, s.H')) : SimStep P s := fun _ ρ w a hr hops K Q hk => by
  obtain ⟨v', ρ', w', h1, h2, h3, h4⟩ := prim_ok (ρm := a.eval) hops hr h
  unfold Oper.wp
  rcases h1 with h1 | ⟨h1, rfl⟩
  · rw [h1]; exact hk v' ρ' w' h2 h3 h4
  · rw [h1]; exact hk undef ρ' w' h2 h3 h4
theorem callee_run {o : Oper} {ρ : Rho} {w : World} {ρa ρm : Operand → Value} {f : FuncId} {args : List Value} (hops : ∀ x ∈ o.op.operands, V ρ (ρa x) (ρm x)) (h : calleeA ρa o.op = some (f, args)) (hf : ∃ fn, P.funcs[f]? = some fn ∧ fn.body.isSome = true ∧ fn.name ≠ "runtime.NumGoroutine") :
    ∃ args' : Array Value, (execOp ρm o).run P w = .ok (.enter f args') w ∧ All2 (V ρ) args args'.toList := by
  obtain ⟨dst, op, type, pos, after, guard⟩ := o
  unfold calleeA at h
  split at h
  · rename_i _ g xs ats he
    simp only at he
    subst he
    split at h
    · rename_i f' first caps hg
      split at h
      · rename_i hfirst
        cases h
        have hv := hops g (by simp [Op.operands, Call.operands])
        rw [hg] at hv
        obtain ⟨hf0, caps', hm, hc⟩ := hv
        obtain ⟨fn, h1, h2, h3⟩ := hf
        refine ⟨#[] ++ xs.map ρm ++ caps', ?_, ?_⟩
        · have hne : (fn.name == "runtime.NumGoroutine") = false := by simpa using h3
          have hb : fn.body.isNone = false := by cases hx : fn.body <;> simp_all
          simp only [execOp, resolve, Sem.run_bind, hm, Deferred.ofValue, Sem.run_pure, Result.andThen_ok, invoke, callFunc, run_program, h1, hne, hb, Bool.false_eq_true, if_false]
        · have : (#[] ++ xs.map ρm ++ caps').toList = xs.toList.map ρm ++ caps'.toList := by simp
          rw [this]
          refine All2.append (All2.self fun x hx => hops x (by simp [Op.operands, Call.operands]; exact .inr (by simpa using hx))) (hc.mono fun _ _ k => .of_VS k)
      · cases h
    · cases h
  · cases h
theorem simStep_call {s : Step} {f : FuncId} {args : List Value} (hc : calleeA (ev s.fr) s.o.op = some (f, args)) (h : SimCall P f args s.H s.v s.H') : SimStep P s := fun _ ρ w a hr hops K Q hk => by
  obtain ⟨args', h1, h2⟩ := callee_run (w := w) (ρm := a.eval) hops hc h.1
  unfold Oper.wp
  rw [h1]
  refine (h.2 ρ w args' hr h2).mono ?_
  rintro e w' ⟨v', ρ', rfl, h3, h4, h5⟩
  exact hk v' ρ' w' h3 h4 h5

/-! ### Frames -/
structure FrRel (ρ : Rho) (n : Nat) (fr : Fr) (a : Act) : Prop where
  size : a.tmps.size = n
  slot : ∀ t, V ρ (fr t) (a.tmps.getD t undef)
theorem FrRel.mono {ρ ρ' : Rho} {n : Nat} {fr : Fr} {a : Act} (h : FrRel ρ n fr a) (hm : ρ.le ρ') : FrRel ρ' n fr a := ⟨h.size, fun t => (h.slot t).mono hm⟩
theorem FrRel.put {ρ : Rho} {n : Nat} {fr : Fr} {a : Act} (h : FrRel ρ n fr a) {d : Option Tmp} (hd : (match d with | some d => decide (d < n) | none => true) = true) {v v' : Value} (hv : V ρ v v') : FrRel ρ n (fr.put d v) (a.put d v') := by
  cases d with
  | none => exact h
  | some d =>
    have hd : d < n := by simpa using hd
    refine ⟨by simp [Act.put, h.size], fun t => ?_⟩
    simp only [Fr.put, Act.put]
    by_cases ht : t = d
    · subst ht
      rw [if_pos rfl]
      have : (a.tmps.setIfInBounds t v').getD t undef = v' := by
        simp [Array.getD, h.size, hd]
      rw [this]; exact hv
    · rw [if_neg ht]
      have : (a.tmps.setIfInBounds d v').getD t undef = a.tmps.getD t undef := by
        simp only [Array.getD_eq_getD_getElem?, Array.getElem?_setIfInBounds_ne (Ne.symm ht)]
      rw [this]; exact h.slot t
theorem FrRel.eval {ρ : Rho} {n : Nat} {fr : Fr} {a : Act} (h : FrRel ρ n fr a) {x : Operand} (hx : okOperand x = true) : V ρ (ev fr x) (a.eval x) := by
  cases x with
  | tmp t => exact h.slot t
  | const v =>
    refine .of_VA (V_closed ?_)
    have hc : closedConst v = true := hx
    unfold closedConst at hc
    cases v <;> first | (simp only [Value.cells, List.all_cons, List.all_nil, Bool.and_true]; exact hx) | cases hc
  | global g => cases hx
  | func f => exact ⟨rfl, #[], rfl, trivial⟩
theorem guard_ok {ρ : Rho} {n : Nat} {fr : Fr} {a : Act} (h : FrRel ρ n fr a) {all : Array Oper} {o : Oper} {b : Bool} (hg : guardA all fr o = some b) : Region.wanted o (yielded all a.tmps) = b := by
  unfold guardA at hg
  unfold Region.wanted
  cases hq : o.guard with
  | none => rw [hq] at hg; cases hg; rfl
  | some q =>
    obtain ⟨j, want⟩ := q
    rw [hq] at hg
    simp only at hg ⊢
    cases ht : (all[j]?).bind (·.dst) with
    | none => rw [ht] at hg; cases hg
    | some t =>
      rw [ht] at hg
      simp only at hg
      have hv := h.slot t
      have hy : yielded all a.tmps j = (match a.tmps[t]? with | some (.bool b) => some b | _ => none) := by
        unfold yielded
        rw [ht]; rfl
      rw [hy]
      cases hf : fr t with
      | bool c =>
        rw [hf] at hg hv
        cases hg
        have hv : a.tmps.getD t undef = .bool c := hv
        have : a.tmps[t]? = some (.bool c) := by
          rw [Array.getD_eq_getD_getElem?] at hv
          cases hx : a.tmps[t]? with
          | none => rw [hx] at hv; simp [undef] at hv
          | some y => rw [hx] at hv; simp at hv; rw [hv]
        rw [this]
        cases c <;> cases want <;> rfl
      | tuple vs =>
        rw [hf] at hg hv
        simp only at hg
        split at hg
        · rename_i he
          cases hg
          have hv := V_undef_eq he hv
          rw [Array.getD_eq_getD_getElem?] at hv
          cases hx : a.tmps[t]? with
          | none => rfl
          | some y => rw [hx] at hv; simp at hv; rw [hv]; rfl
        · cases hg
      | _ => rw [hf] at hg; cases hg

/-! ### Runs of operations -/
/-- The steps of a run of operations hang together: each frame and heap is what the step ahead left. -/
inductive Chain (P : Program) (all : Array Oper) : List Oper → Fr → Heap → List Step → Fr → Heap → Prop
  | nil (fr : Fr) (H : Heap) : Chain P all [] fr H [] fr H
  | cons {o : Oper} {rest : List Oper} {fr fr' : Fr} {H H₁ H' : Heap} {b : Bool} {v : Value} {tr : List Step} : guardA all fr o = some b → (b = false → v = undef ∧ H₁ = H) → SimStep P ⟨o, fr, H, b, v, H₁⟩ →
      (b = true → isW o.op = false → primA P (ev fr) o.op H = some (v, H₁)) → Chain P all rest (fr.put o.dst v) H₁ tr fr' H' → Chain P all (o :: rest) fr H (⟨o, fr, H, b, v, H₁⟩ :: tr) fr' H'

theorem chain_seq {all : Array Oper} {Q : Exit → Act → World → Prop} {n : Nat} {l : List Oper} {fr fr' : Fr} {H H' : Heap} {tr : List Step} (h : Chain P all l fr H tr fr' H') (hok : ∀ o ∈ l, okOper n o = true) :
    ∀ (ρ : Rho) (w : World) (a : Act), Rel ρ H w → FrRel ρ n fr a → (∀ ρ' w' a', Stp ρ H w ρ' H' w' → FrRel ρ' n fr' a' → Full H H' ρ' → a'.defers = a.defers → Q .normal a' w') → wpList P all Q l a w := by
  induction h with
  | nil fr H => exact fun ρ w a hr hf hq => wpList_nil (hq ρ w a (Stp.refl hr) hf (full_same (Nat.le_refl _)) rfl)
  | @cons o rest fr fr' H H₁ H' b v tr hg hb hs hp hc ih =>
    intro ρ w a hr hf hq
    have hoo := hok o (by simp)
    simp only [okOper, Bool.and_eq_true, Array.all_eq_true_iff_forall_mem] at hoo
    obtain ⟨⟨o1, o2⟩, o3⟩ := hoo
    have hw := guard_ok hf hg
    refine wpList_step fun K hK => ?_
    rw [hw]
    cases b with
    | true =>
      simp only [if_true]
      refine hs rfl ρ w a hr (fun x hx => hf.eval (o2 x hx)) K Q fun v' ρ' w' h1 h2 hfu => hK _ _ ?_
      refine ih (fun o ho => hok o (by simp [ho])) ρ' w' _ h1.rel ((hf.mono (h1.le hr)).put o1 h2) fun ρ'' w'' a'' k1 k2 kf k3 => hq ρ'' w'' a'' (h1.trans hr k1) k2 (hfu.trans k1 kf) (k3.trans ?_)
      cases o.dst <;> rfl
    | false =>
      obtain ⟨rfl, rfl⟩ := hb rfl
      simp only [Bool.false_eq_true, if_false]
      refine hK _ _ (ih (fun o ho => hok o (by simp [ho])) ρ w _ hr (hf.put o1 V_undef) fun ρ'' w'' a'' k1 k2 kf k3 => hq ρ'' w'' a'' k1 k2 kf (k3.trans ?_))
      cases o.dst <;> rfl
end
end Go.Proofs.Ytmbikamebhoelaa.Ai
