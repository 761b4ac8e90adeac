/- Operations that turn nothing, taken together; operations that make a row. No condition. -/
import Derived.Test.YtmbikamebhoelaaAi7
set_option linter.unusedVariables false
set_option linter.unusedSimpArgs false
namespace Go.Proofs.Ytmbikamebhoelaa.Ai
open Go
section
variable {P : Program} {w : World} {ρ : Rho}

theorem vo_map {ρa ρm : Operand → Value} {x : Option Operand} (h : ∀ y, x = some y → V ρ (ρa y) (ρm y)) : VO ρ (x.map ρa) (x.map ρm) := by
  cases x with
  | none => trivial
  | some y => exact h y rfl
theorem vps_map {ρa ρm : Operand → Value} {ps : Array (Nat × Operand)} (h : ∀ x ∈ ps.toList.map (·.2), V ρ (ρa x) (ρm x)) : VPs ρ (ps.toList.map fun p => (p.1, ρa p.2)) (ps.map fun p => (p.1, ρm p.2)).toList := by
  rw [Array.toList_map]
  exact All2.self fun p hp => ⟨rfl, h p.2 (List.mem_map.2 ⟨p, hp, rfl⟩)⟩
theorem All2.of_fn {α β γ : Type} {R : β → γ → Prop} {f : α → β} {g : α → γ} (l : List α) (h : ∀ x ∈ l, R (f x) (g x)) : All2 R (l.map f) (l.map g) := All2.self h

theorem pure_ok {o : Oper} {ρa ρm : Operand → Value} {H H₁ : Heap} {v : Value} (hops : ∀ x ∈ o.op.operands, V ρ (ρa x) (ρm x)) (h0 : ρ 0 = none)
    (hread : ∀ x, readOf ρa o.op = some x → ∀ l r, ρ x = some l → readRow H x = some r → RowOk ρ w l r) (hn : isNew o.op = false) (hw : isW o.op = false) (h : primA P ρa o.op H = some (v, H₁)) :
    H₁ = H ∧ ∃ v', (execOp ρm o).run P w = .ok (.value v') w ∧ V ρ v v' := by
  obtain ⟨dst, op, type, pos, after, guard⟩ := o
  have fin : ∀ {s : Sem Value} {u u' : Value}, s.run P w = .ok u' w → V ρ u u' → ((do pure (.value (← s))) : Sem Next).run P w = .ok (.value u') w := fun hs _ => by simp only [Sem.run_bind, hs, Result.andThen_ok, Sem.run_pure]
  cases op <;> simp only [primA, reduceCtorEq] at h
  case move x => cases h; exact ⟨rfl, _, rfl, hops x (by simp [Op.operands])⟩
  case assign x => cases h; exact ⟨rfl, _, rfl, hops x (by simp [Op.operands])⟩
  case pick c a b =>
    split at h
    · rename_i t ht
      cases h
      have hc : ρm c = .bool t := by have := hops c (by simp [Op.operands]); rw [ht] at this; exact this
      refine ⟨rfl, if t then ρm a else ρm b, by simp only [execOp, hc, asBool, Sem.run_bind, Sem.run_pure, Result.andThen_ok], ?_⟩
      cases t
      · exact hops b (by simp [Op.operands])
      · exact hops a (by simp [Op.operands])
    · cases h
  case alloc => cases hn
  case box => cases hn
  case build t ps =>
    cases hb : buildA P t (ps.toList.map fun p => (p.1, ρa p.2)) with
    | none => simp [hb] at h
    | some u =>
      simp [hb] at h
      obtain ⟨rfl, rfl⟩ := h
      obtain ⟨v', h1, h2⟩ := build_ok (w := w) (vps_map (ρ := ρ) (ρm := ρm) fun x hx => hops x (by simpa [Op.operands] using hx)) hb
      exact ⟨rfl, v', fin h1 h2, h2⟩
  case buildSlice => cases hn
  case load t a =>
    cases hl : loadA P t (ρa a) H with
    | none => simp [hl] at h
    | some u =>
      simp [hl] at h
      obtain ⟨rfl, rfl⟩ := h
      unfold loadA at hl
      split at hl
      · rename_i id off hp
        cases hr : readRow H id with
        | none => simp [hr] at hl
        | some r =>
          simp only [hr, Option.bind_some] at hl
          have ha := hops a (by simp [Op.operands])
          rw [hp] at ha
          obtain ⟨_, l, hl1, hm⟩ := V_ptr ha
          have hok := hread id (by simp [readOf, hp]) l r hl1 hr
          obtain ⟨v', h1, h2⟩ := loadVar_ok hok hl
          refine ⟨rfl, v', ?_, .of_VA h2⟩
          show ((do pure (.value (← Instr.loadAt t (ρm a)))) : Sem Next).run P w = _
          rw [hm]
          exact fin (u := u) (by simpa only [Instr.loadAt, Instr.sureAddr, Sem.run_bind, Sem.run_pure, Result.andThen_ok] using h1) (.of_VA h2)
      · cases hl
  case store => cases hw
  case nilCheck x =>
    split at h
    · rename_i a ha
      cases h
      have hx := hops x (by simp [Op.operands])
      rw [ha] at hx
      obtain ⟨_, l, hl, hm⟩ := V_ptr hx
      refine ⟨rfl, ρm x, ?_, hx⟩
      simp only [execOp, hm, Sem.run_pure]
    · cases h
  case binOp op t x y yt =>
    cases hb : binA P op t (ρa x) (ρa y) with
    | none => simp [hb] at h
    | some u =>
      simp [hb] at h
      obtain ⟨rfl, rfl⟩ := h
      obtain ⟨h1, h2⟩ := bin_ok (w := w) (ox := x) (oy := y) (hops x (by simp [Op.operands])) (hops y (by simp [Op.operands])) hb
      exact ⟨rfl, u, fin h1 h2, h2⟩
  case unOp op t x =>
    cases hb : unA op (ρa x) with
    | none => simp [hb] at h
    | some u =>
      simp [hb] at h
      obtain ⟨rfl, rfl⟩ := h
      obtain ⟨h1, h2⟩ := un_ok (P := P) (w := w) (hops x (by simp [Op.operands])) hb
      exact ⟨rfl, u, fin h1 h2, h2⟩
  case convert s d x =>
    cases hb : convA P s d (ρa x) H with
    | none => simp [hb] at h
    | some u =>
      simp [hb] at h
      obtain ⟨rfl, rfl⟩ := h
      obtain ⟨h1, h2⟩ := conv_ok (P := P) (w := w) (hops x (by simp [Op.operands])) h0 (fun a l c hx k r hk hr => hread a.block (by simp [readOf, hx]) k r hk hr) hb
      exact ⟨rfl, u, fin h1 h2, h2⟩
  case makeFunc fn first captured =>
    cases hb : makeFuncA fn first.toList (captured.toList.map ρa) with
    | none => simp [hb] at h
    | some u =>
      simp [hb] at h
      obtain ⟨rfl, rfl⟩ := h
      unfold makeFuncA at hb
      split at hb
      · rename_i f hf
        split at hb
        · rename_i hs
          cases hb
          have hf' : first = #[] := by cases first; simp at hf; rw [hf]
          subst hf'
          refine ⟨rfl, .func (.func f) #[] (captured.map ρm), by simp [execOp, Instr.makeFunc], rfl, _, rfl, ?_⟩
          rw [Array.toList_map]
          exact All2.self fun x hx => V_scalar (by rw [List.all_eq_true] at hs; exact hs _ (List.mem_map.2 ⟨x, hx, rfl⟩)) (hops x (by simpa [Op.operands] using hx))
        · cases hb
      · cases hb
  case makeSlice => cases hn
  case slice t x lo hi mx =>
    cases hb : sliceA P t (ρa x) (lo.map ρa) (hi.map ρa) (mx.map ρa) with
    | none => simp [hb] at h
    | some u =>
      simp [hb] at h
      obtain ⟨rfl, rfl⟩ := h
      cases mx with
      | some m => simp [sliceA] at hb
      | none =>
        obtain ⟨v', h1, h2⟩ := slice_ok (w := w) (hops x (by simp [Op.operands])) (vo_map (ρm := ρm) fun y hy => hops y (by simp [Op.operands, hy])) (vo_map (ρm := ρm) fun y hy => hops y (by simp [Op.operands, hy])) hb
        exact ⟨rfl, v', fin h1 h2, h2⟩
  case fieldAddr s x f =>
    cases hb : fieldAddrA P s (ρa x) f with
    | none => simp [hb] at h
    | some u =>
      simp [hb] at h
      obtain ⟨rfl, rfl⟩ := h
      obtain ⟨v', h1, h2⟩ := fieldAddr_ok (w := w) (hops x (by simp [Op.operands])) hb
      exact ⟨rfl, v', fin h1 h2, h2⟩
  case field t x f =>
    cases hb : fieldA P t (ρa x) f with
    | none => simp [hb] at h
    | some u =>
      simp [hb] at h
      obtain ⟨rfl, rfl⟩ := h
      obtain ⟨v', h1, h2⟩ := field_ok (w := w) (hops x (by simp [Op.operands])) hb
      exact ⟨rfl, v', fin h1 h2, h2⟩
  case indexAddr t x i =>
    cases hb : indexAddrA P t (ρa x) (ρa i) with
    | none => simp [hb] at h
    | some u =>
      simp [hb] at h
      obtain ⟨rfl, rfl⟩ := h
      obtain ⟨v', h1, h2⟩ := indexAddr_ok (w := w) (hops x (by simp [Op.operands])) (hops i (by simp [Op.operands])) hb
      exact ⟨rfl, v', fin h1 h2, h2⟩
  case index t x i =>
    cases hb : indexA P t (ρa x) (ρa i) with
    | none => simp [hb] at h
    | some u =>
      simp [hb] at h
      obtain ⟨rfl, rfl⟩ := h
      obtain ⟨v', h1, h2⟩ := index_ok (w := w) (hops x (by simp [Op.operands])) (hops i (by simp [Op.operands])) hb
      exact ⟨rfl, v', fin h1 h2, h2⟩
  case extract x i =>
    split at h
    · rename_i vs hv
      cases hi : vs[i]? with
      | none => simp [hi] at h
      | some u =>
        simp [hi] at h
        obtain ⟨rfl, rfl⟩ := h
        have hx := hops x (by simp [Op.operands])
        rw [hv] at hx
        obtain ⟨vs', hm, hc⟩ := hx
        obtain ⟨v', g1, g2⟩ := hc.get (i := i) (a := u) (by simpa using hi)
        have g1' : vs'[i]? = some v' := by simpa using g1
        refine ⟨rfl, v', ?_, .of_VA g2⟩
        show ((do pure (.value (← Instr.extract (ρm x) i))) : Sem Next).run P w = _
        rw [hm]
        exact fin (u := u) (by simp only [Instr.extract, g1', Sem.run_pure]) (.of_VA g2)
    · cases h
  case call c =>
    obtain ⟨callee, args, ats⟩ := c
    cases callee with
    | value f => simp only [primA, reduceCtorEq] at h
    | invoke r m => simp only [primA, reduceCtorEq] at h
    | builtin b =>
      simp only [primA] at h
      unfold builtinA at h
      split at h
      · rename_i t x ht ha
        cases hb : lenA P t x with
        | none => simp [hb] at h
        | some u =>
          simp [hb] at h
          obtain ⟨rfl, rfl⟩ := h
          obtain ⟨y, hy, rfl⟩ : ∃ y, args = #[y] ∧ ρa y = x := by
            have : ∃ y, args.toList = [y] ∧ ρa y = x := by
              cases hl : args.toList with
              | nil => rw [hl] at ha; simp at ha
              | cons y l => cases l with
                | nil => rw [hl] at ha; simp at ha; exact ⟨y, rfl, ha⟩
                | cons z l => rw [hl] at ha; simp at ha
            obtain ⟨y, h1, h2⟩ := this
            exact ⟨y, by cases args; simp at h1; rw [h1], h2⟩
          subst hy
          have hts : ats[0]? = some t := by cases ats; simp at ht; rw [ht]; rfl
          obtain ⟨h1, h2⟩ := len_ok (P := P) (w := w) (ty := type) (hops y (by simp [Op.operands, Call.operands])) hb hts
          refine ⟨rfl, u, ?_, h2⟩
          show ((do pure (.value (← Builtin.len_ ats type (#[y].map ρm)))) : Sem Next).run P w = _
          rw [show (#[y] : Array Operand).map ρm = #[ρm y] from by simp]
          exact fin (u := u) h1 h2
      · cases hw
      · cases hw
      · rename_i x y ha
        cases hb : min2A x y with
        | none => simp [hb] at h
        | some u =>
          simp [hb] at h
          obtain ⟨rfl, rfl⟩ := h
          obtain ⟨p, q, hy, rfl, rfl⟩ : ∃ p q, args = #[p, q] ∧ ρa p = x ∧ ρa q = y := by
            have : ∃ p q, args.toList = [p, q] ∧ ρa p = x ∧ ρa q = y := by
              cases hl : args.toList with
              | nil => rw [hl] at ha; simp at ha
              | cons p l => cases l with
                | nil => rw [hl] at ha; simp at ha
                | cons q l => cases l with
                  | nil => rw [hl] at ha; simp at ha; exact ⟨p, q, rfl, ha.1, ha.2⟩
                  | cons z l => rw [hl] at ha; simp at ha
            obtain ⟨p, q, h1, h2, h3⟩ := this
            exact ⟨p, q, by cases args; simp at h1; rw [h1], h2, h3⟩
          subst hy
          have hp := hops p (by simp [Op.operands, Call.operands])
          have hq := hops q (by simp [Op.operands, Call.operands])
          unfold min2A at hb
          split at hb
          · rename_i e1 e2
            cases hb
            rw [e1] at hp
            rw [e2] at hq
            refine ⟨rfl, _, ?_, V_int'⟩
            show ((do pure (.value (← Builtin.min_ ats type ((#[p, q] : Array Operand).map ρm)))) : Sem Next).run P w = _
            rw [show (#[p, q] : Array Operand).map ρm = #[ρm p, ρm q] from by simp, V_int hp, V_int hq]
            rfl
          · cases hb
      · rename_i x y ha
        cases hb : max2A x y with
        | none => simp [hb] at h
        | some u =>
          simp [hb] at h
          obtain ⟨rfl, rfl⟩ := h
          obtain ⟨p, q, hy, rfl, rfl⟩ : ∃ p q, args = #[p, q] ∧ ρa p = x ∧ ρa q = y := by
            have : ∃ p q, args.toList = [p, q] ∧ ρa p = x ∧ ρa q = y := by
              cases hl : args.toList with
              | nil => rw [hl] at ha; simp at ha
              | cons p l => cases l with
                | nil => rw [hl] at ha; simp at ha
                | cons q l => cases l with
                  | nil => rw [hl] at ha; simp at ha; exact ⟨p, q, rfl, ha.1, ha.2⟩
                  | cons z l => rw [hl] at ha; simp at ha
            obtain ⟨p, q, h1, h2, h3⟩ := this
            exact ⟨p, q, by cases args; simp at h1; rw [h1], h2, h3⟩
          subst hy
          have hp := hops p (by simp [Op.operands, Call.operands])
          have hq := hops q (by simp [Op.operands, Call.operands])
          unfold max2A at hb
          split at hb
          · rename_i e1 e2
            cases hb
            rw [e1] at hp
            rw [e2] at hq
            refine ⟨rfl, _, ?_, V_int'⟩
            show ((do pure (.value (← Builtin.max_ ats type ((#[p, q] : Array Operand).map ρm)))) : Sem Next).run P w = _
            rw [show (#[p, q] : Array Operand).map ρm = #[ρm p, ρm q] from by simp, V_int hp, V_int hq]
            rfl
          · cases hb
      · cases h
end
end Go.Proofs.Ytmbikamebhoelaa.Ai
